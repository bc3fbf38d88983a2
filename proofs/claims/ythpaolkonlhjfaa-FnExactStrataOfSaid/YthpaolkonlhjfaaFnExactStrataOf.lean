/-
  The given law FnExactStrataOf holds for every input: it returns true, and its arguments read behind the call as they read before. No conditions.
-/
import Derived.Test.YthpaolkonlhjfaaRows
import Derived.Test.YthpaolkonlhjfaaFnExactStrataOfC
import Derived.ProofKit
set_option linter.all false
set_option maxHeartbeats 1000000
set_option synthInstance.maxSize 1000
namespace Go.Am
open Go.ChangeShapes Go.WideShapes Go.ChangeAt Go.RowKit
open Go.Proofs (Try.prog)
attribute [local irreducible] snapB roT giveB okD free packB
abbrev eIntSS (x : List (List Int)) : V := eL eI x
abbrev oIntSS (x : List (List Int)) : V := oL 1 oI x
abbrev eRow (x : List Int) : V := .st [eI x]
abbrev oRow (x : List Int) : V := .st [oI x]
abbrev eRowS (x : List (List Int)) : V := eL eRow x
abbrev oRowS (x : List (List Int)) : V := oL 1 oRow x
theorem sz_IntS (l : List Int) (n : Int) (h0 : 0 ≤ n) (h1 : n ≤ 1048576) (hl : Bnd.wf l) : ∃ t, CALLB Γ T 85 [] [eI l, .i n] = some (t, []) ∧ SzP l n t := by
  have hle := wf_len hl
  apply call_ex rfl rfl rfl rfl
  repeat' (first|refine st ?_|refine u0 ?_|refine u1 ?_|refine u2 ?_|refine u3 ?_|refine u4 ?_|refine u5 ?_|refine u6 ?_|(refine Br.mk ?_ ?_<;>intro hc)|(refine An.mk ?_;intro x hx))
  · exact sz_neg
  · exact sz_ok ⟨by omega, fun _ _ => trivial⟩
theorem sz_Row (l : List Int) (n : Int) (h0 : 0 ≤ n) (h1 : n ≤ 1048576) (hl : Bnd.wf l) : ∃ t, CALLB Γ T 77 [] [eRow l, .i n] = some (t, []) ∧ SzP l n t := by
  apply call_ex rfl rfl rfl rfl
  obtain ⟨t0, hk0, m0, rfl, h0_⟩ := sz_IntS l n (by omega) (by omega) hl
  repeat' (first|refine st ?_|refine u0 ?_|refine u1 ?_|refine u2 ?_|refine u3 ?_|refine u4 ?_|refine u5 ?_|refine u6 ?_|(apply i_ca;first|refine c0 (hk0) ?_)|(refine Br.mk ?_ ?_<;>intro hc)|(refine An.mk ?_;intro x hx))
  · exact sz_neg
  have h0' := h0_.resolve_left (by omega)
  repeat' (first|refine st ?_|refine u0 ?_|refine u1 ?_|refine u2 ?_|refine u3 ?_|refine u4 ?_|refine u5 ?_|refine u6 ?_|(refine Br.mk ?_ ?_<;>intro hc)|(refine An.mk ?_;intro x hx))
  exact sz_ok (h0'.1)
theorem sz_RowS (l : List (List Int)) (n : Int) (h0 : 0 ≤ n) (h1 : n ≤ 1048576) (hl : Bnd.wf l) : ∃ t, CALLB Γ T 32 [] [eRowS l, .i n] = some (t, []) ∧ SzP l n t := by
  have hle := wf_len hl
  apply call_ex rfl rfl rfl rfl
  repeat' (first|refine st ?_|refine u0 ?_|refine u1 ?_|refine u2 ?_|refine u3 ?_|refine u4 ?_|refine u5 ?_|refine u6 ?_|(refine Br.mk ?_ ?_<;>intro hc)|(refine An.mk ?_;intro x hx))
  · exact sz_neg
  refine wp_eachI (l) (fun _ _ => ()) (fun i (g : Int) => ⟨envA [(0, eRowS l), (1, .i g), (5, .i (i : Nat))], heapA [], 0, false⟩) (n - l.length) (()) (fun i (g : Int) => 0 ≤ g ∧ g ≤ n ∧ l.length ≤ 1048576 ∧ ∀ x ∈ l.take i, Bnd.ok x) nm ?_ ?_ ?_ ?_
  · rfl
  · exact ⟨by omega, by omega, by omega, take_nil⟩
  · intro i g x hi hx hm _ hI
    obtain ⟨t, hk, m, rfl, hm'⟩ := sz_Row x g (by omega) (by omega) (wf_mem hl hm)
    repeat' (first|refine st ?_|refine u0 ?_|refine u1 ?_|refine u2 ?_|refine u3 ?_|refine u4 ?_|refine u5 ?_|refine u6 ?_|(apply i_ca;first|refine c0 (hk) ?_)|(refine Br.mk ?_ ?_<;>intro hc)|(refine An.mk ?_;intro x hx))
    · exact sz_neg
    · have hm2 := hm'.resolve_left (by omega)
      exact ei_n m rfl ⟨hm2.2.1, by omega, hI.2.2.1, take_all hI.2.2.2 hx hm2.1⟩ nm
  · intro g _ hI
    repeat' (first|refine st ?_|refine u0 ?_|refine u1 ?_|refine u2 ?_|refine u3 ?_|refine u4 ?_|refine u5 ?_|refine u6 ?_|(refine Br.mk ?_ ?_<;>intro hc)|(refine An.mk ?_;intro x hx))
    exact sz_ok ⟨by omega, take_end hI.2.2.2⟩ hI.1 hI.2.1
theorem eq_IntS (a b : List Int) (ha : Bnd.ok a) : CALLB Γ T 45 [] [eI a, eI b] = some (.b (decide (a = b)), []) := by
  have hle := ok_len ha
  apply call_ro' rfl rfl rfl rfl
  repeat' (first|refine st ?_|refine u0 ?_|refine u1 ?_|refine u2 ?_|refine u3 ?_|refine u4 ?_|refine u5 ?_|refine u6 ?_|(refine Br.mk ?_ ?_<;>intro hc)|(refine An.mk ?_;intro x hx))
  · exact (decide_eq_false (by rintro rfl; omega)).symm
  refine wp_eachI (a) (fun _ _ => ()) (fun i (_ : Unit) => ⟨envA [(0, eI a), (1, eI b), (5, .i (i : Nat))], heapA [], 0, false⟩) (()) (()) (fun i (_ : Unit) => a.take i = b.take i) nm ?_ ?_ ?_ ?_
  · rfl
  · rfl
  · intro i g x hi hx hm _ hI
    obtain ⟨y, hy⟩ := cell_of (r := b) (j := i) (by omega)
    repeat' (first|refine st ?_|refine u0 ?_|refine u1 ?_|refine u2 ?_|refine u3 ?_|refine u4 ?_|refine u5 ?_|refine u6 ?_|(refine Br.mk ?_ ?_<;>intro hc)|(refine An.mk ?_;intro x hx))
    · exact (decide_eq_false (ne_of_at hx hy (by assumption))).symm
    · exact ei_n () rfl (take_eq hI hx hy (by assumption)) nm
  · intro g _ hI
    repeat' (first|refine st ?_|refine u0 ?_|refine u1 ?_|refine u2 ?_|refine u3 ?_|refine u4 ?_|refine u5 ?_|refine u6 ?_|(refine Br.mk ?_ ?_<;>intro hc)|(refine An.mk ?_;intro x hx))
    exact (decide_eq_true (eq_of_take hI (by omega))).symm
theorem eq_IntSS (a b : List (List Int)) (ha : Bnd.ok a) : CALLB Γ T 51 [] [eIntSS a, eIntSS b] = some (.b (decide (a = b)), []) := by
  have hle := ok_len ha
  apply call_ro' rfl rfl rfl rfl
  repeat' (first|refine st ?_|refine u0 ?_|refine u1 ?_|refine u2 ?_|refine u3 ?_|refine u4 ?_|refine u5 ?_|refine u6 ?_|(refine Br.mk ?_ ?_<;>intro hc)|(refine An.mk ?_;intro x hx))
  · exact (decide_eq_false (by rintro rfl; omega)).symm
  refine wp_eachI (a) (fun _ _ => ()) (fun i (_ : Unit) => ⟨envA [(0, eIntSS a), (1, eIntSS b), (5, .i (i : Nat))], heapA [], 0, false⟩) (()) (()) (fun i (_ : Unit) => a.take i = b.take i) nm ?_ ?_ ?_ ?_
  · rfl
  · rfl
  · intro i g x hi hx hm _ hI
    obtain ⟨y, hy⟩ := cell_of (r := b) (j := i) (by omega)
    repeat' (first|refine st ?_|refine u0 ?_|refine u1 ?_|refine u2 ?_|refine u3 ?_|refine u4 ?_|refine u5 ?_|refine u6 ?_|(apply i_ca;first|(apply i_f 45;refine c0 (eq_IntS x y (ok_mem ha hm)) ?_))|(refine Br.mk ?_ ?_<;>intro hc)|(refine An.mk ?_;intro x hx))
    · exact (decide_eq_false (ne_of_at hx hy (by assumption))).symm
    · exact ei_n () rfl (take_eq hI hx hy (by assumption)) nm
  · intro g _ hI
    repeat' (first|refine st ?_|refine u0 ?_|refine u1 ?_|refine u2 ?_|refine u3 ?_|refine u4 ?_|refine u5 ?_|refine u6 ?_|(refine Br.mk ?_ ?_<;>intro hc)|(refine An.mk ?_;intro x hx))
    exact (decide_eq_true (eq_of_take hI (by omega))).symm
theorem eq_Row (a b : List Int) (ha : Bnd.ok a) : CALLB Γ T 55 [] [eRow a, eRow b] = some (.b (decide (a = b)), []) := by
  apply call_ro' rfl rfl rfl rfl
  repeat' (first|refine st ?_|refine u0 ?_|refine u1 ?_|refine u2 ?_|refine u3 ?_|refine u4 ?_|refine u5 ?_|refine u6 ?_|(apply i_ca;first|(apply i_f 45;refine c0 (eq_IntS _ _ ha) ?_))|(refine Br.mk ?_ ?_<;>intro hc)|(refine An.mk ?_;intro x hx))
  · exact (decide_eq_false (by assumption)).symm
  · exact (decide_eq_true (by assumption)).symm
theorem eq_RowS (a b : List (List Int)) (ha : Bnd.ok a) : CALLB Γ T 34 [] [eRowS a, eRowS b] = some (.b (decide (a = b)), []) := by
  have hle := ok_len ha
  apply call_ro' rfl rfl rfl rfl
  repeat' (first|refine st ?_|refine u0 ?_|refine u1 ?_|refine u2 ?_|refine u3 ?_|refine u4 ?_|refine u5 ?_|refine u6 ?_|(refine Br.mk ?_ ?_<;>intro hc)|(refine An.mk ?_;intro x hx))
  · exact (decide_eq_false (by rintro rfl; omega)).symm
  refine wp_eachI (a) (fun _ _ => ()) (fun i (_ : Unit) => ⟨envA [(0, eRowS a), (1, eRowS b), (5, .i (i : Nat))], heapA [], 0, false⟩) (()) (()) (fun i (_ : Unit) => a.take i = b.take i) nm ?_ ?_ ?_ ?_
  · rfl
  · rfl
  · intro i g x hi hx hm _ hI
    obtain ⟨y, hy⟩ := cell_of (r := b) (j := i) (by omega)
    repeat' (first|refine st ?_|refine u0 ?_|refine u1 ?_|refine u2 ?_|refine u3 ?_|refine u4 ?_|refine u5 ?_|refine u6 ?_|(apply i_ca;first|(apply i_f 55;refine c0 (eq_Row x y (ok_mem ha hm)) ?_))|(refine Br.mk ?_ ?_<;>intro hc)|(refine An.mk ?_;intro x hx))
    · exact (decide_eq_false (ne_of_at hx hy (by assumption))).symm
    · exact ei_n () rfl (take_eq hI hx hy (by assumption)) nm
  · intro g _ hI
    repeat' (first|refine st ?_|refine u0 ?_|refine u1 ?_|refine u2 ?_|refine u3 ?_|refine u4 ?_|refine u5 ?_|refine u6 ?_|(refine Br.mk ?_ ?_<;>intro hc)|(refine An.mk ?_;intro x hx))
    exact (decide_eq_true (eq_of_take hI (by omega))).symm
theorem to_IntS (l : List Int) (hl : Bnd.ok l) : CALLB Γ T 54 [] [eI l] = some (oI l, []) := by
  have hle := ok_len hl
  apply call_ro' rfl rfl rfl rfl
  repeat' (first|refine st ?_|refine u0 ?_|refine u1 ?_|refine u2 ?_|refine u3 ?_|refine u4 ?_|refine u5 ?_|refine u6 ?_|(refine Br.mk ?_ ?_<;>intro hc)|(refine An.mk ?_;intro x hx))
  refine wp_each (l) (fun _ _ => ()) (fun i (_ : Unit) => ⟨envA [(0, eI l), (3, .hs 0 0 l.length l.length), (4, .i (i : Nat))], heapA [some ⟨1, (l.take i).map V.i ++ List.replicate (l.length - i) (.im (.int .i64 0)), false⟩], 1, false⟩) (()) (()) nm ?_ ?_ ?_
  · rfl
  · intro i g x hi hx hm _
    repeat' (first|refine st ?_|refine u0 ?_|refine u1 ?_|refine u2 ?_|refine u3 ?_|refine u4 ?_|refine u5 ?_|refine u6 ?_|(refine Br.mk ?_ ?_<;>intro hc)|(refine An.mk ?_;intro x hx))
    exact ea_n () rfl nm
  · intro g _
    rw [fill_full]
    repeat' (first|refine st ?_|refine u0 ?_|refine u1 ?_|refine u2 ?_|refine u3 ?_|refine u4 ?_|refine u5 ?_|refine u6 ?_|(refine Br.mk ?_ ?_<;>intro hc)|(refine An.mk ?_;intro x hx))
    rfl
theorem to_Row (l : List Int) (hl : Bnd.ok l) : CALLB Γ T 78 [] [eRow l] = some (oRow l, []) := by
  apply call_ro' rfl rfl rfl rfl
  repeat' (first|refine st ?_|refine u0 ?_|refine u1 ?_|refine u2 ?_|refine u3 ?_|refine u4 ?_|refine u5 ?_|refine u6 ?_|(apply i_ca;first|(apply i_f 54;refine c0 (to_IntS _ hl) ?_))|(refine Br.mk ?_ ?_<;>intro hc)|(refine An.mk ?_;intro x hx))
  exact ⟨rfl, trivial⟩
theorem to_RowS (l : List (List Int)) (hl : Bnd.ok l) : CALLB Γ T 33 [] [eRowS l] = some (oRowS l, []) := by
  have hle := ok_len hl
  apply call_ro' rfl rfl rfl rfl
  repeat' (first|refine st ?_|refine u0 ?_|refine u1 ?_|refine u2 ?_|refine u3 ?_|refine u4 ?_|refine u5 ?_|refine u6 ?_|(refine Br.mk ?_ ?_<;>intro hc)|(refine An.mk ?_;intro x hx))
  refine wp_each (l) (fun _ _ => ()) (fun i (_ : Unit) => ⟨envA [(0, eRowS l), (3, .hs 0 0 l.length l.length), (4, .i (i : Nat))], heapA [some ⟨1, (l.take i).map oRow ++ List.replicate (l.length - i) ((.st [.e0])), false⟩], 1, false⟩) (()) (()) nm ?_ ?_ ?_
  · rfl
  · intro i g x hi hx hm _
    repeat' (first|refine st ?_|refine u0 ?_|refine u1 ?_|refine u2 ?_|refine u3 ?_|refine u4 ?_|refine u5 ?_|refine u6 ?_|(apply i_ca;first|(apply i_f 78;refine c0 (to_Row x (ok_mem hl hm)) ?_))|(refine Br.mk ?_ ?_<;>intro hc)|(refine An.mk ?_;intro x hx))
    exact ea_n () rfl nm
  · intro g _
    rw [fill_full]
    repeat' (first|refine st ?_|refine u0 ?_|refine u1 ?_|refine u2 ?_|refine u3 ?_|refine u4 ?_|refine u5 ?_|refine u6 ?_|(refine Br.mk ?_ ?_<;>intro hc)|(refine An.mk ?_;intro x hx))
    rfl
theorem k_l1In (x a b : Int) : CALLB Γ T 71 [] [.i x, .i a, .i b] = some (.b (decide (a ≤ x ∧ x ≤ b)), []) := by
  apply call_ro' rfl rfl rfl rfl
  repeat' (first|refine st ?_|refine u0 ?_|refine u1 ?_|refine u2 ?_|refine u3 ?_|refine u4 ?_|refine u5 ?_|refine u6 ?_|(refine Br.mk ?_ ?_<;>intro hc)|(refine An.mk ?_;intro x hx))
  all_goals simp [*]
theorem k_within (x a b : Int) : CALLB Γ T 91 [] [.i x, .i a, .i b] = some (.b (decide (a ≤ x ∧ x ≤ b)), []) := by
  apply call_ro' rfl rfl rfl rfl
  repeat' (first|refine st ?_|refine u0 ?_|refine u1 ?_|refine u2 ?_|refine u3 ?_|refine u4 ?_|refine u5 ?_|refine u6 ?_|(refine Br.mk ?_ ?_<;>intro hc)|(refine An.mk ?_;intro x hx))
  all_goals simp [*]
def isRow (l : List Int) (n : Int) : Bool := l.all (fun m => decide (-1 ≤ m ∧ m ≤ 1)) && (decide (1 ≤ n ∧ n ≤ 5) && decide ((l.length : Int) = n))
theorem k_IsRow (l : List Int) (n : Int) (hl : Bnd.ok l) : CALLB Γ T 90 [] [eR l, .i n] = some (.b (isRow l n), []) := by
  have hle := ok_len hl
  apply call_ro' rfl rfl rfl rfl
  repeat' (first|refine st ?_|refine u0 ?_|refine u1 ?_|refine u2 ?_|refine u3 ?_|refine u4 ?_|refine u5 ?_|refine u6 ?_|(refine Br.mk ?_ ?_<;>intro hc)|(refine An.mk ?_;intro x hx))
  refine wp_each (l) (fun r _ => r.all (fun m => decide (-1 ≤ m ∧ m ≤ 1)) && (decide (1 ≤ n ∧ n ≤ 5) && decide ((l.length : Int) = n))) (fun i (_ : Unit) => ⟨envA [(1, .i n), (2, .hp 0 0), (8, eI l), (9, .i l.length), (10, .i (i : Nat))], heapA [some ⟨1, [eR l], false⟩], 1, false⟩) (()) (isRow l n) nm ?_ ?_ ?_
  · rfl
  · intro i g x hi hx hm hF
    repeat' (first|refine st ?_|refine u0 ?_|refine u1 ?_|refine u2 ?_|refine u3 ?_|refine u4 ?_|refine u5 ?_|refine u6 ?_|(apply i_ca;first|(apply i_f 91;refine c0 (k_within _ _ _) ?_))|(refine Br.mk ?_ ?_<;>intro hc)|(refine An.mk ?_;intro x hx))
    · rw [← hF]; simp [*]
    · exact ea_n () (by rw [← hF]; simp [hc]) nm
  · intro g hF
    repeat' (first|refine st ?_|refine u0 ?_|refine u1 ?_|refine u2 ?_|refine u3 ?_|refine u4 ?_|refine u5 ?_|refine u6 ?_|(apply i_ca;first|(apply i_f 91;refine c0 (k_within _ _ _) ?_))|(refine Br.mk ?_ ?_<;>intro hc)|(refine An.mk ?_;intro x hx))
    all_goals rw [← hF]; simp [*]
theorem k_sIsRow (l : List Int) (n : Int) (hl : Bnd.ok l) : CALLB Γ T 70 [] [eR l, .i n] = some (.b (isRow l n), []) := by
  have hle := ok_len hl
  apply call_ro' rfl rfl rfl rfl
  repeat' (first|refine st ?_|refine u0 ?_|refine u1 ?_|refine u2 ?_|refine u3 ?_|refine u4 ?_|refine u5 ?_|refine u6 ?_|(refine Br.mk ?_ ?_<;>intro hc)|(refine An.mk ?_;intro x hx))
  refine wp_each (l) (fun r _ => r.all (fun m => decide (-1 ≤ m ∧ m ≤ 1)) && (decide (1 ≤ n ∧ n ≤ 5) && decide ((l.length : Int) = n))) (fun i (_ : Unit) => ⟨envA [(1, .i n), (2, .hp 0 0), (5, .i (i : Nat))], heapA [some ⟨1, [eR l], false⟩], 1, false⟩) (()) (isRow l n) nm ?_ ?_ ?_
  · rfl
  · intro i g x hi hx hm hF
    repeat' (first|refine st ?_|refine u0 ?_|refine u1 ?_|refine u2 ?_|refine u3 ?_|refine u4 ?_|refine u5 ?_|refine u6 ?_|(apply i_ca;first|(apply i_f 71;refine c0 (k_l1In _ _ _) ?_))|(refine Br.mk ?_ ?_<;>intro hc)|(refine An.mk ?_;intro x hx))
    · rw [← hF]; simp [*]
    · exact ea_n () (by rw [← hF]; simp [hc]) nm
  · intro g hF
    repeat' (first|refine st ?_|refine u0 ?_|refine u1 ?_|refine u2 ?_|refine u3 ?_|refine u4 ?_|refine u5 ?_|refine u6 ?_|(apply i_ca;first|(apply i_f 71;refine c0 (k_l1In _ _ _) ?_))|(refine Br.mk ?_ ?_<;>intro hc)|(refine An.mk ?_;intro x hx))
    all_goals rw [← hF]; simp [*]
def idxFrom {α : Type} (p : α → Bool) : List α → Nat → Int
  | [], _ => -1
  | x :: r, i => if p x then (i : Int) else idxFrom p r (i + 1)
theorem idxFrom_congr {α : Type} {p q : α → Bool} : ∀ {l : List α} {i : Nat}, (∀ x ∈ l, p x = q x) → idxFrom p l i = idxFrom q l i
  | [], _, _ => rfl
  | x :: l, i, h => by
    simp only [idxFrom, h x (by simp)]
    rw [idxFrom_congr (l := l) fun y hy => h y (by simp [hy])]
theorem any_mem {l : List Int} {x : Int} : (l.any fun y => decide (y = x)) = decide (x ∈ l) := by
  rw [Bool.eq_iff_iff]; simp
theorem k_l12Has (l : List Int) (x : Int) (hl : Bnd.ok l) : CALLB Γ T 100 [] [eI l, .i x] = some (.b (decide (x ∈ l)), []) := by
  have hle := ok_len hl
  apply call_ro' rfl rfl rfl rfl
  repeat' (first|refine st ?_|refine u0 ?_|refine u1 ?_|refine u2 ?_|refine u3 ?_|refine u4 ?_|refine u5 ?_|refine u6 ?_|(refine Br.mk ?_ ?_<;>intro hc)|(refine An.mk ?_;intro x hx))
  refine wp_each (l) (fun r _ => r.any fun y => decide (y = x)) (fun i (_ : Unit) => ⟨envA [(0, eI l), (1, .i x), (5, .i (i : Nat))], heapA [], 0, false⟩) (()) (decide (x ∈ l)) nm ?_ ?_ ?_
  · exact any_mem
  · intro i g y hi hx hm hF
    repeat' (first|refine st ?_|refine u0 ?_|refine u1 ?_|refine u2 ?_|refine u3 ?_|refine u4 ?_|refine u5 ?_|refine u6 ?_|(refine Br.mk ?_ ?_<;>intro hc)|(refine An.mk ?_;intro x hx))
    · rw [← hF]; simp [hc]
    · exact ea_n () (by simpa [hc] using hF) nm
  · intro g hF
    repeat' (first|refine st ?_|refine u0 ?_|refine u1 ?_|refine u2 ?_|refine u3 ?_|refine u4 ?_|refine u5 ?_|refine u6 ?_|(refine Br.mk ?_ ?_<;>intro hc)|(refine An.mk ?_;intro x hx))
    rw [← hF]; rfl
theorem idxFrom_pos {α : Type} {p : α → Bool} : ∀ {l : List α} {i : Nat}, (0 ≤ idxFrom p l i) ↔ l.any p = true
  | [], i => by simp [idxFrom]
  | x :: l, i => by
    simp only [idxFrom, List.any_cons]
    cases hp : p x with
    | true => simp
    | false => simpa using idxFrom_pos (l := l) (i := i + 1)
theorem k_slIndex (l : List Int) (x : Int) (hl : Bnd.ok l) : CALLB Γ T 94 [] [eI l, .i x] = some (.i (idxFrom (fun y => decide (x = y)) l 0), []) := by
  have hle := ok_len hl
  apply call_ro' rfl rfl rfl rfl
  repeat' (first|refine st ?_|refine u0 ?_|refine u1 ?_|refine u2 ?_|refine u3 ?_|refine u4 ?_|refine u5 ?_|refine u6 ?_|(refine Br.mk ?_ ?_<;>intro hc)|(refine An.mk ?_;intro x hx))
  refine wp_eachI (l) (fun r g => idxFrom (fun y => decide (x = y)) r g) (fun i (g : Nat) => ⟨envA [(0, eI l), (1, .i x), (7, .i l.length), (8, .i (i : Nat))], heapA [], 0, false⟩) (0) (idxFrom (fun y => decide (x = y)) l 0) (fun i (g : Nat) => g = i) nm ?_ ?_ ?_ ?_
  · rfl
  · rfl
  · rintro i g y hi hx hm hF rfl
    repeat' (first|refine st ?_|refine u0 ?_|refine u1 ?_|refine u2 ?_|refine u3 ?_|refine u4 ?_|refine u5 ?_|refine u6 ?_|(refine Br.mk ?_ ?_<;>intro hc)|(refine An.mk ?_;intro x hx))
    · rw [← hF]; simp [idxFrom, hc]
    · exact ei_n (g + 1) (by rw [← hF]; simp [idxFrom, hc]) rfl nm
  · intro g hF hI
    repeat' (first|refine st ?_|refine u0 ?_|refine u1 ?_|refine u2 ?_|refine u3 ?_|refine u4 ?_|refine u5 ?_|refine u6 ?_|(refine Br.mk ?_ ?_<;>intro hc)|(refine An.mk ?_;intro x hx))
    rw [← hF]; rfl
theorem k_slContains (l : List Int) (x : Int) (hl : Bnd.ok l) : CALLB Γ T 73 [] [eI l, .i x] = some (.b (decide (x ∈ l)), []) := by
  apply call_ro' rfl rfl rfl rfl
  repeat' (first|refine st ?_|refine u0 ?_|refine u1 ?_|refine u2 ?_|refine u3 ?_|refine u4 ?_|refine u5 ?_|refine u6 ?_|(apply i_ca;first|(apply i_f 94;refine c0 (k_slIndex _ _ hl) ?_))|(refine Br.mk ?_ ?_<;>intro hc)|(refine An.mk ?_;intro x hx))
  rw [Bool.eq_iff_iff]; simp [idxFrom_pos]
theorem k_IndexFuncI (f : Nat) (v : V) (p : Int → Bool) (l : List Int) (hmd : Γ.md f = some []) (hl : Bnd.ok l) (hp : ∀ x ∈ l, CALLB Γ T f [] [.i x, .rp v] = some (.b (p x), [])) :
    CALLB Γ T 118 [] [eI l, .cl f [.rp v]] = some (.i (idxFrom p l 0), []) := by
  have hle := ok_len hl
  apply call_ro' rfl rfl rfl rfl
  repeat' (first|refine st ?_|refine u0 ?_|refine u1 ?_|refine u2 ?_|refine u3 ?_|refine u4 ?_|refine u5 ?_|refine u6 ?_|(refine Br.mk ?_ ?_<;>intro hc)|(refine An.mk ?_;intro x hx))
  refine wp_eachI (l) (fun r g => idxFrom p r g) (fun i (g : Nat) => ⟨envA [(0, eI l), (1, .cl f [.rp v]), (7, .i l.length), (8, .i (i : Nat))], heapA [], 0, false⟩) (0) (idxFrom p l 0) (fun i (g : Nat) => g = i) nm ?_ ?_ ?_ ?_
  · rfl
  · rfl
  · rintro i g x hi hx hm hF rfl
    have hk := hp x hm
    repeat' (first|refine st ?_|refine u0 ?_|refine u1 ?_|refine u2 ?_|refine u3 ?_|refine u4 ?_|refine u5 ?_|refine u6 ?_|(apply i_ca;first|refine cv (hk) ?_)|(refine Br.mk ?_ ?_<;>intro hc)|(refine An.mk ?_;intro x hx))
    · rw [← hF]; simp [idxFrom, hc]
    · exact ei_n (g + 1) (by rw [← hF]; simp [idxFrom, hc]) rfl nm
  · intro g hF hI
    repeat' (first|refine st ?_|refine u0 ?_|refine u1 ?_|refine u2 ?_|refine u3 ?_|refine u4 ?_|refine u5 ?_|refine u6 ?_|(refine Br.mk ?_ ?_<;>intro hc)|(refine An.mk ?_;intro x hx))
    rw [← hF]; rfl
theorem k_IndexFuncI2 (f : Nat) (v w : V) (p : Int → Bool) (l : List Int) (hmd : Γ.md f = some []) (hl : Bnd.ok l) (hp : ∀ x ∈ l, CALLB Γ T f [] [.i x, .rp v, .rp w] = some (.b (p x), [])) :
    CALLB Γ T 118 [] [eI l, .cl f [.rp v, .rp w]] = some (.i (idxFrom p l 0), []) := by
  have hle := ok_len hl
  apply call_ro' rfl rfl rfl rfl
  repeat' (first|refine st ?_|refine u0 ?_|refine u1 ?_|refine u2 ?_|refine u3 ?_|refine u4 ?_|refine u5 ?_|refine u6 ?_|(refine Br.mk ?_ ?_<;>intro hc)|(refine An.mk ?_;intro x hx))
  refine wp_eachI (l) (fun r g => idxFrom p r g) (fun i (g : Nat) => ⟨envA [(0, eI l), (1, .cl f [.rp v, .rp w]), (7, .i l.length), (8, .i (i : Nat))], heapA [], 0, false⟩) (0) (idxFrom p l 0) (fun i (g : Nat) => g = i) nm ?_ ?_ ?_ ?_
  · rfl
  · rfl
  · rintro i g x hi hx hm hF rfl
    have hk := hp x hm
    repeat' (first|refine st ?_|refine u0 ?_|refine u1 ?_|refine u2 ?_|refine u3 ?_|refine u4 ?_|refine u5 ?_|refine u6 ?_|(apply i_ca;first|refine cv (hk) ?_)|(refine Br.mk ?_ ?_<;>intro hc)|(refine An.mk ?_;intro x hx))
    · rw [← hF]; simp [idxFrom, hc]
    · exact ei_n (g + 1) (by rw [← hF]; simp [idxFrom, hc]) rfl nm
  · intro g hF hI
    repeat' (first|refine st ?_|refine u0 ?_|refine u1 ?_|refine u2 ?_|refine u3 ?_|refine u4 ?_|refine u5 ?_|refine u6 ?_|(refine Br.mk ?_ ?_<;>intro hc)|(refine An.mk ?_;intro x hx))
    rw [← hF]; rfl
theorem k_ContainsFuncI2 (f : Nat) (v w : V) (p : Int → Bool) (l : List Int) (hmd : Γ.md f = some []) (hl : Bnd.ok l) (hp : ∀ x ∈ l, CALLB Γ T f [] [.i x, .rp v, .rp w] = some (.b (p x), [])) :
    CALLB Γ T 106 [] [eI l, .cl f [.rp v, .rp w]] = some (.b (l.any p), []) := by
  apply call_ro' rfl rfl rfl rfl
  repeat' (first|refine st ?_|refine u0 ?_|refine u1 ?_|refine u2 ?_|refine u3 ?_|refine u4 ?_|refine u5 ?_|refine u6 ?_|(apply i_ca;first|(apply i_f 118;refine c0 (k_IndexFuncI2 f v w p l hmd hl hp) ?_))|(refine Br.mk ?_ ?_<;>intro hc)|(refine An.mk ?_;intro x hx))
  rw [Bool.eq_iff_iff]; simp [idxFrom_pos]
theorem k_IndexFuncR (f : Nat) (v : V) (p : List Int → Bool) (l : List (List Int)) (hmd : Γ.md f = some []) (hl : Bnd.ok l) (hp : ∀ x ∈ l, CALLB Γ T f [] [eR x, .rp v] = some (.b (p x), [])) :
    CALLB Γ T 117 [] [eL eR l, .cl f [.rp v]] = some (.i (idxFrom p l 0), []) := by
  have hle := ok_len hl
  apply call_ro' rfl rfl rfl rfl
  repeat' (first|refine st ?_|refine u0 ?_|refine u1 ?_|refine u2 ?_|refine u3 ?_|refine u4 ?_|refine u5 ?_|refine u6 ?_|(refine Br.mk ?_ ?_<;>intro hc)|(refine An.mk ?_;intro x hx))
  refine wp_eachI (l) (fun r g => idxFrom p r g) (fun i (g : Nat) => ⟨envA [(0, eL eR l), (1, .cl f [.rp v]), (7, .i l.length), (8, .i (i : Nat))], heapA [], 0, false⟩) (0) (idxFrom p l 0) (fun i (g : Nat) => g = i) nm ?_ ?_ ?_ ?_
  · rfl
  · rfl
  · rintro i g x hi hx hm hF rfl
    have hk := hp x hm
    repeat' (first|refine st ?_|refine u0 ?_|refine u1 ?_|refine u2 ?_|refine u3 ?_|refine u4 ?_|refine u5 ?_|refine u6 ?_|(apply i_ca;first|refine cv (hk) ?_)|(refine Br.mk ?_ ?_<;>intro hc)|(refine An.mk ?_;intro x hx))
    · rw [← hF]; simp [idxFrom, hc]
    · exact ei_n (g + 1) (by rw [← hF]; simp [idxFrom, hc]) rfl nm
  · intro g hF hI
    repeat' (first|refine st ?_|refine u0 ?_|refine u1 ?_|refine u2 ?_|refine u3 ?_|refine u4 ?_|refine u5 ?_|refine u6 ?_|(refine Br.mk ?_ ?_<;>intro hc)|(refine An.mk ?_;intro x hx))
    rw [← hF]; rfl
theorem k_ContainsFuncR (f : Nat) (v : V) (p : List Int → Bool) (l : List (List Int)) (hmd : Γ.md f = some []) (hl : Bnd.ok l) (hp : ∀ x ∈ l, CALLB Γ T f [] [eR x, .rp v] = some (.b (p x), [])) :
    CALLB Γ T 101 [] [eL eR l, .cl f [.rp v]] = some (.b (l.any p), []) := by
  apply call_ro' rfl rfl rfl rfl
  repeat' (first|refine st ?_|refine u0 ?_|refine u1 ?_|refine u2 ?_|refine u3 ?_|refine u4 ?_|refine u5 ?_|refine u6 ?_|(apply i_ca;first|(apply i_f 117;refine c0 (k_IndexFuncR f v p l hmd hl hp) ?_))|(refine Br.mk ?_ ?_<;>intro hc)|(refine An.mk ?_;intro x hx))
  rw [Bool.eq_iff_iff]; simp [idxFrom_pos]
def areRows (l : List (List Int)) (n : Int) : Bool := l.all (fun r => isRow r n) && (decide (1 ≤ n ∧ n ≤ 5) && decide ((l.length : Int) ≤ 20))
theorem k_AreRows (l : List (List Int)) (n : Int) (hl : Bnd.ok l) : CALLB Γ T 64 [] [eL eR l, .i n] = some (.b (areRows l n), []) := by
  have hle := ok_len hl
  apply call_ro' rfl rfl rfl rfl
  repeat' (first|refine st ?_|refine u0 ?_|refine u1 ?_|refine u2 ?_|refine u3 ?_|refine u4 ?_|refine u5 ?_|refine u6 ?_|(refine Br.mk ?_ ?_<;>intro hc)|(refine An.mk ?_;intro x hx))
  refine wp_each (l) (fun r _ => r.all (fun r => isRow r n) && (decide (1 ≤ n ∧ n ≤ 5) && decide ((l.length : Int) ≤ 20))) (fun i (_ : Unit) => ⟨envA [(0, eL eR l), (1, .i n), (7, eL eR l), (8, .i l.length), (9, .i (i : Nat))], heapA [], 0, false⟩) (()) (areRows l n) nm ?_ ?_ ?_
  · rfl
  · intro i g x hi hx hm hF
    repeat' (first|refine st ?_|refine u0 ?_|refine u1 ?_|refine u2 ?_|refine u3 ?_|refine u4 ?_|refine u5 ?_|refine u6 ?_|(apply i_ca;first|(apply i_f 90;refine c0 (k_IsRow _ _ (ok_mem hl hm)) ?_))|(refine Br.mk ?_ ?_<;>intro hc)|(refine An.mk ?_;intro x hx))
    · rw [← hF]; simp [*]
    · exact ea_n () (by rw [← hF]; simp [*]) nm
  · intro g hF
    repeat' (first|refine st ?_|refine u0 ?_|refine u1 ?_|refine u2 ?_|refine u3 ?_|refine u4 ?_|refine u5 ?_|refine u6 ?_|(apply i_ca;first|(apply i_f 91;refine c0 (k_within _ _ _) ?_))|(refine Br.mk ?_ ?_<;>intro hc)|(refine An.mk ?_;intro x hx))
    all_goals rw [← hF]; simp [*]
theorem k_sAreRows (l : List (List Int)) (n : Int) (hl : Bnd.ok l) : CALLB Γ T 21 [] [eL eR l, .i n] = some (.b (areRows l n), []) := by
  have hle := ok_len hl
  apply call_ro' rfl rfl rfl rfl
  repeat' (first|refine st ?_|refine u0 ?_|refine u1 ?_|refine u2 ?_|refine u3 ?_|refine u4 ?_|refine u5 ?_|refine u6 ?_|(refine Br.mk ?_ ?_<;>intro hc)|(refine An.mk ?_;intro x hx))
  refine wp_each (l) (fun r _ => r.all (fun r => isRow r n) && (decide (1 ≤ n ∧ n ≤ 5) && decide ((l.length : Int) ≤ 20))) (fun i (_ : Unit) => ⟨envA [(0, eL eR l), (1, .i n), (5, .i (i : Nat))], heapA [], 0, false⟩) (()) (areRows l n) nm ?_ ?_ ?_
  · rfl
  · intro i g x hi hx hm hF
    repeat' (first|refine st ?_|refine u0 ?_|refine u1 ?_|refine u2 ?_|refine u3 ?_|refine u4 ?_|refine u5 ?_|refine u6 ?_|(apply i_ca;first|(apply i_f 70;refine c0 (k_sIsRow _ _ (ok_mem hl hm)) ?_))|(refine Br.mk ?_ ?_<;>intro hc)|(refine An.mk ?_;intro x hx))
    · rw [← hF]; simp [*]
    · exact ea_n () (by rw [← hF]; simp [*]) nm
  · intro g hF
    repeat' (first|refine st ?_|refine u0 ?_|refine u1 ?_|refine u2 ?_|refine u3 ?_|refine u4 ?_|refine u5 ?_|refine u6 ?_|(apply i_ca;first|(apply i_f 71;refine c0 (k_l1In _ _ _) ?_))|(refine Br.mk ?_ ?_<;>intro hc)|(refine An.mk ?_;intro x hx))
    all_goals rw [← hF]; simp [*]
def mkD (l : List (List Int)) (i k : Int) : Int := (l.getD i.toNat []).getD k.toNat 0
theorem mkD_of {l : List (List Int)} {i k : Int} {r : List Int} {m : Int} (h1 : l[i.toNat]? = some r) (h2 : r[k.toNat]? = some m) : mkD l i k = m := by simp [mkD, List.getD_eq_getElem?_getD, h1, h2]
def fineD (l : List (List Int)) (rows : List Int) (k : Int) : Bool := rows.all fun i => !decide (mkD l i k = -1)
def canD (l : List (List Int)) (rows left : List Int) : List Int := left.filter (fineD l rows)
def restD (c left : List Int) : List Int := left.filter fun k => !decide (k ∈ c)
def wonD (l : List (List Int)) (c : List Int) (i : Int) : Bool := c.any fun k => decide (mkD l i k = 1)
def keepD (l : List (List Int)) (c rows : List Int) : List Int := rows.filter fun i => !wonD l c i
def runD (l : List (List Int)) : Nat → List Int → List Int → List (List Int) → List (List Int) × List Int × List Int
  | 0, left, rows, st => (st, left, rows)
  | n + 1, left, rows, st => if left = [] then (st, left, rows) else if canD l rows left = [] then (st, left, rows) else runD l n (restD (canD l rows left) left) (keepD l (canD l rows left) rows) (st ++ [canD l rows left])
def rng (n : Nat) : List Int := (List.range n).map Int.ofNat
/-- What the lists are made of. -/
structure InD (l : List (List Int)) (n : Int) (left rows : List Int) : Prop where
  row : ∀ r ∈ l, (r.length : Int) = n
  n0 : 0 ≤ n
  nl : n ≤ 2 ^ 20
  ll : l.length ≤ 2 ^ 20
  lf : ∀ k ∈ left, 0 ≤ k ∧ k < n
  rw_ : ∀ i ∈ rows, 0 ≤ i ∧ i < l.length
theorem InD.cell {l : List (List Int)} {n : Int} {left rows : List Int} (h : InD l n left rows) {i k : Int} (hi : i ∈ rows) (hk : 0 ≤ k ∧ k < n) : ∃ r m, l[i.toNat]? = some r ∧ r[k.toNat]? = some m ∧ r ∈ l ∧ (r.length : Int) = n ∧ mkD l i k = m := by
  have h1 := h.rw_ i hi
  have hlt : i.toNat < l.length := by omega
  have h3 := h.row _ (List.getElem_mem hlt)
  refine ⟨l[i.toNat], l[i.toNat][k.toNat]'(by omega), List.getElem?_eq_getElem hlt, List.getElem?_eq_getElem _, List.getElem_mem hlt, h3, ?_⟩
  exact mkD_of (List.getElem?_eq_getElem hlt) (List.getElem?_eq_getElem _)
theorem InD.ok {l : List (List Int)} {n : Int} {left rows : List Int} (h : InD l n left rows) : Bnd.ok l := by
  have h1 := h.ll
  have h2 := h.nl
  exact ⟨by omega, fun r hr => ⟨by have := h.row r hr; omega, fun _ _ => trivial⟩⟩
theorem k_l15Stratum (l : List (List Int)) (n : Int) (rows left : List Int) (hl : Bnd.ok left) (hr : Bnd.ok rows) (h : InD l n left rows) : CALLB Γ T 99 [] [eL eR l, eI rows, eI left] = some (oI (canD l rows left), []) := by
  have hle := ok_len hl
  have hre := ok_len hr
  have hn := h.nl
  apply call_ro' rfl rfl rfl rfl
  repeat' (first|refine st ?_|refine u0 ?_|refine u1 ?_|refine u2 ?_|refine u3 ?_|refine u4 ?_|refine u5 ?_|refine u6 ?_|(refine Br.mk ?_ ?_<;>intro hc)|(refine An.mk ?_;intro x hx))
  refine wp_eachI (left) (fun r acc => acc ++ r.filter (fineD l rows)) (fun i (acc : List Int) => ⟨envA [(0, eL eR l), (1, eI rows), (2, eI left), (7, .hs 0 0 (acc).length (acc).length), (8, .i (i : Nat))], heapA [some ⟨1, (acc).map V.i, false⟩], 1, false⟩) ([]) (canD l rows left) (fun i (acc : List Int) => acc.length ≤ i) nm ?_ ?_ ?_ ?_
  · rfl
  · simp
  · intro i acc k hi hx hm hF hI
    repeat' (first|refine st ?_|refine u0 ?_|refine u1 ?_|refine u2 ?_|refine u3 ?_|refine u4 ?_|refine u5 ?_|refine u6 ?_|(refine Br.mk ?_ ?_<;>intro hc)|(refine An.mk ?_;intro x hx))
    refine wp_each (rows) (fun r g => g && r.all (fun i => !decide (mkD l i k = -1))) (fun j (g : Bool) => ⟨envA [(0, eL eR l), (1, eI rows), (2, eI left), (7, .hs 0 0 (acc).length (acc).length), (8, .i (i : Nat)), (9, .b g), (10, .i (j : Nat))], heapA [some ⟨1, (acc).map V.i, false⟩], 1, false⟩) (true) (fineD l rows k) nm ?_ ?_ ?_
    · rfl
    · intro j g y hj hy hym hF2
      obtain ⟨r, m, h1, h2, h3, h4, h5⟩ := h.cell hym (h.lf k hm)
      have h6 := h.rw_ y hym
      have h7 := h.lf k hm
      repeat' (first|refine st ?_|refine u0 ?_|refine u1 ?_|refine u2 ?_|refine u3 ?_|refine u4 ?_|refine u5 ?_|refine u6 ?_|(refine Br.mk ?_ ?_<;>intro hc)|(refine An.mk ?_;intro x hx))
      · exact ea_n (!decide (m = -1)) (by simpa [h5, hc] using hF2) nm
      · exact ea_n false (by simpa [hc] using hF2) nm
    · intro g hF2
      have hg : g = fineD l rows k := by simpa using hF2
      subst hg
      repeat' (first|refine st ?_|refine u0 ?_|refine u1 ?_|refine u2 ?_|refine u3 ?_|refine u4 ?_|refine u5 ?_|refine u6 ?_|(refine Br.mk ?_ ?_<;>intro hc)|(refine An.mk ?_;intro x hx))
      · exact ei_n (acc ++ [k]) (by simpa [hc] using hF) (by simp; omega) nm
      · exact ei_n acc (by simpa [hc] using hF) (by omega) nm
  · intro acc hF hI
    repeat' (first|refine st ?_|refine u0 ?_|refine u1 ?_|refine u2 ?_|refine u3 ?_|refine u4 ?_|refine u5 ?_|refine u6 ?_|(refine Br.mk ?_ ?_<;>intro hc)|(refine An.mk ?_;intro x hx))
    simpa using hF
theorem k_demote1 (r : List Int) (k m : Int) (h0 : 0 ≤ k) (hm : r[k.toNat]? = some m) : CALLB Γ T 102 [] [eR r, .rp (.i k)] = some (.b (decide (m = -1)), []) := by
  have hlt : k.toNat < r.length := (List.getElem?_eq_some_iff.1 hm).1
  apply call_ro' rfl rfl rfl rfl
  repeat' (first|refine st ?_|refine u0 ?_|refine u1 ?_|refine u2 ?_|refine u3 ?_|refine u4 ?_|refine u5 ?_|refine u6 ?_|(refine Br.mk ?_ ?_<;>intro hc)|(refine An.mk ?_;intro x hx))
  rfl
theorem k_demote2 (c : List Int) (k : Int) (hc : Bnd.ok c) : CALLB Γ T 104 [] [.i k, .rp (eI c)] = some (.b (decide (k ∈ c)), []) := by
  apply call_ro' rfl rfl rfl rfl
  repeat' (first|refine st ?_|refine u0 ?_|refine u1 ?_|refine u2 ?_|refine u3 ?_|refine u4 ?_|refine u5 ?_|refine u6 ?_|(apply i_ca;first|(apply i_f 73;refine c0 (k_slContains _ _ hc) ?_))|(refine Br.mk ?_ ?_<;>intro hc)|(refine An.mk ?_;intro x hx))
  rfl
theorem k_demote31 (l : List (List Int)) (i k m : Int) (r : List Int) (h1 : l[i.toNat]? = some r) (h2 : r[k.toNat]? = some m) (hi : 0 ≤ i) (hk : 0 ≤ k) : CALLB Γ T 107 [] [.i k, .rp (eL eR l), .rp (.i i)] = some (.b (decide (m = 1)), []) := by
  apply call_ro' rfl rfl rfl rfl
  repeat' (first|refine st ?_|refine u0 ?_|refine u1 ?_|refine u2 ?_|refine u3 ?_|refine u4 ?_|refine u5 ?_|refine u6 ?_|(refine Br.mk ?_ ?_<;>intro hc)|(refine An.mk ?_;intro x hx))
  rfl
theorem k_demote3 (l : List (List Int)) (n : Int) (c rows : List Int) (i : Int) (hc : Bnd.ok c) (h : InD l n c rows) (hi : i ∈ rows) : CALLB Γ T 105 [] [.i i, .rp (eI c), .rp (eL eR l)] = some (.b (wonD l c i), []) := by
  have h1 : ∀ k ∈ c, CALLB Γ T 107 [] [.i k, .rp (eL eR l), .rp (.i i)] = some (.b (decide (mkD l i k = 1)), []) := by
    intro k hk
    obtain ⟨r, m, g1, g2, _, _, g5⟩ := h.cell hi (h.lf k hk)
    rw [g5]
    exact k_demote31 l i k m r g1 g2 (h.rw_ i hi).1 (h.lf k hk).1
  apply call_ro' rfl rfl rfl rfl
  repeat' (first|refine st ?_|refine u0 ?_|refine u1 ?_|refine u2 ?_|refine u3 ?_|refine u4 ?_|refine u5 ?_|refine u6 ?_|(apply i_ca;first|(apply i_f 106;refine c0 (k_ContainsFuncI2 107 (eL eR l) (.i i) (fun k => decide (mkD l i k = 1)) c rfl hc h1) ?_))|(refine Br.mk ?_ ?_<;>intro hc)|(refine An.mk ?_;intro x hx))
  rfl
theorem filter_take {α : Type} {q : α → Bool} {l : List α} {i : Nat} {x : α} (h : l[i]? = some x) : (l.take (i + 1)).filter q = (l.take i).filter q ++ (if q x then [x] else []) := by
  rw [List.take_add_one, h, List.filter_append]
  cases hq : q x <;> simp [hq]
theorem idxFrom_ge {α : Type} {p : α → Bool} : ∀ {l : List α} {i : Nat}, idxFrom p l i = -1 → ∀ x ∈ l, p x = false
  | [], _, _ => by simp
  | y :: l, i, h => by
    unfold idxFrom at h
    split at h
    · omega
    · rename_i hy
      intro x hx
      rcases List.mem_cons.1 hx with rfl | hx
      · simpa using hy
      · exact idxFrom_ge h x hx
theorem idxFrom_at {α : Type} {p : α → Bool} : ∀ {l : List α} {i : Nat}, idxFrom p l i ≠ -1 → ∃ j x, idxFrom p l i = ((i + j : Nat) : Int) ∧ l[j]? = some x ∧ p x = true ∧ ∀ y ∈ l.take j, p y = false
  | [], _, h => by simp [idxFrom] at h
  | y :: l, i, h => by
    unfold idxFrom at h ⊢
    split at h
    · rename_i hy
      rw [if_pos hy]
      exact ⟨0, y, by simp, rfl, hy, by simp⟩
    · rename_i hy
      rw [if_neg hy]
      obtain ⟨j, x, h1, h2, h3, h4⟩ := idxFrom_at h
      exact ⟨j + 1, x, by rw [h1]; congr 1; omega, by simpa using h2, h3, by
        intro z hz
        rw [List.take_succ_cons] at hz
        rcases List.mem_cons.1 hz with rfl | hz
        · simpa using hy
        · exact h4 z hz⟩
theorem drop_get {α : Type} {e l : List α} {j : Nat} {x : α} (h : e.drop j = l.drop j) (hx : l[j]? = some x) : e[j]? = some x := by
  have h1 : (e.drop j)[0]? = (l.drop j)[0]? := by rw [h]
  simpa [hx] using h1
theorem drop_next {α : Type} {e l : List α} {j : Nat} (h : e.drop j = l.drop j) : e.drop (j + 1) = l.drop (j + 1) := by
  rw [← List.drop_drop, ← List.drop_drop, h]
theorem take_set {α : Type} {e : List α} {i : Nat} {x : α} (hi : i < e.length) : (e.set i x).take (i + 1) = e.take i ++ [x] := by
  rw [List.take_set, List.take_succ_eq_append_getElem hi, List.set_append_right _ _ (by simp; omega)]
  have : i - (e.take i).length = 0 := by simp; omega
  rw [this]; rfl
theorem drop_set {α : Type} {e : List α} {i j : Nat} {x : α} (h : i < j) : (e.set i x).drop j = e.drop j := by
  rw [List.drop_set, if_pos h]
theorem filter_self {α : Type} {q : α → Bool} {l : List α} (h : ∀ x ∈ l, q x = true) : l.filter q = l := List.filter_eq_self.2 h
theorem k_DeleteFunc (f : Nat) (v : V) (p : Int → Bool) (l : List Int) (hmd : Γ.md f = some []) (hl : Bnd.ok l) (hp : ∀ x ∈ l, CALLB Γ T f [] [.i x, .rp v] = some (.b (p x), [])) :
    CALLB Γ T 103 [.tk, .ro] [oI l, .cl f [.rp v]] = some (oI (l.filter fun x => !p x), []) := by
  have hle := ok_len hl
  refine call_md' rfl rfl rfl rfl tkLA ?_
  by_cases hm1 : idxFrom p l 0 = -1
  · repeat' (first|refine st ?_|refine u0 ?_|refine u1 ?_|refine u2 ?_|refine u3 ?_|refine u4 ?_|refine u5 ?_|refine u6 ?_|(apply i_ca;first|(apply i_f 118;refine c0 (k_IndexFuncI f v p l hmd hl hp) ?_))|(refine Br.mk ?_ ?_<;>intro hc)|(refine An.mk ?_;intro x hx))
    rw [filter_self]
    intro x hx
    rw [idxFrom_ge hm1 x hx]; rfl
  · obtain ⟨j0, x0, h1, h2, h3, h4⟩ := idxFrom_at hm1
    rw [Nat.zero_add] at h1
    have hk := k_IndexFuncI f v p l hmd hl hp
    rw [h1] at hk
    have hj0 := (List.getElem?_eq_some_iff.1 h2).1
    (try refine st ?_)
    refine c0 (hk) ?_
    repeat' (first|refine st ?_|refine u0 ?_|refine u1 ?_|refine u2 ?_|refine u3 ?_|refine u4 ?_|refine u5 ?_|refine u6 ?_|(refine Br.mk ?_ ?_<;>intro hc)|(refine An.mk ?_;intro x hx))
    refine wp_while (fun (x : Nat × Nat × List Int) => ⟨envA [(0, .hs 0 0 l.length l.length), (1, .cl f [.rp v]), (5, .i (x.1 : Nat)), (6, .i (x.2.1 : Nat))], heapA [some ⟨1, (x.2.2.map V.i), false⟩], 1, false⟩) (fun (x : Nat × Nat × List Int) => x.2.2.length = l.length ∧ x.2.1 ≤ l.length ∧ x.1 < x.2.1 ∧ x.2.2.take x.1 = (l.take x.2.1).filter (fun x => !p x) ∧ x.2.2.drop x.2.1 = l.drop x.2.1) (fun (x : Nat × Nat × List Int) => l.length - x.2.1) ((j0, j0 + 1, l)) nm ?_ ?_
    · refine ⟨rfl, by show j0 + 1 ≤ l.length; omega, by show j0 < j0 + 1; omega, ?_, rfl⟩
      show l.take j0 = (l.take (j0 + 1)).filter _
      rw [filter_take h2, h3, filter_self fun y hy => by rw [h4 y hy]; rfl]
      simp
    · rintro ⟨i, j, e⟩ ⟨g1, g2, g3, g4, g5⟩
      simp only at g1 g2 g3 g4 g5
      dsimp only
      by_cases hj : j < l.length
      · have hx := drop_get g5 (List.getElem?_eq_getElem hj)
        have hxl : l[j]? = some l[j] := List.getElem?_eq_getElem hj
        generalize l[j] = x at hx hxl
        have hpx := hp x (List.mem_of_getElem? hxl)
        repeat' (first|refine st ?_|refine u0 ?_|refine u1 ?_|refine u2 ?_|refine u3 ?_|refine u4 ?_|refine u5 ?_|refine u6 ?_|(apply i_ca;first|refine cv (hpx) ?_)|(refine Br.mk ?_ ?_<;>intro hc)|(refine An.mk ?_;intro x hx))
        · refine lp_n (i + 1, j + 1, e.set i x) (by show l.length - (j + 1) < l.length - j; omega) ⟨by simpa using g1, by show j + 1 ≤ _; omega, by show i + 1 < j + 1; omega, ?_, ?_⟩ nm
          · show (e.set i x).take (i + 1) = (l.take (j + 1)).filter _
            rw [take_set (by omega), g4, filter_take hxl, hc]; rfl
          · show (e.set i x).drop (j + 1) = l.drop (j + 1)
            rw [drop_set (by omega)]; exact drop_next g5
        · refine lp_n (i, j + 1, e) (by show l.length - (j + 1) < l.length - j; omega) ⟨g1, by show j + 1 ≤ _; omega, by show i < j + 1; omega, ?_, drop_next g5⟩ nm
          show e.take i = (l.take (j + 1)).filter _
          rw [g4, filter_take hxl, hc]; simp
      · repeat' (first|refine st ?_|refine u0 ?_|refine u1 ?_|refine u2 ?_|refine u3 ?_|refine u4 ?_|refine u5 ?_|refine u6 ?_|(refine Br.mk ?_ ?_<;>intro hc)|(refine An.mk ?_;intro x hx))
        refine g_sch rfl rfl rfl rfl rfl (by omega) ?_
        refine g_cr rfl rfl rfl rfl (by simp; omega) ?_
        repeat' (first|refine st ?_|refine u0 ?_|refine u1 ?_|refine u2 ?_|refine u3 ?_|refine u4 ?_|refine u5 ?_|refine u6 ?_|(refine Br.mk ?_ ?_<;>intro hc)|(refine An.mk ?_;intro x hx))
        refine g_sch rfl rfl rfl rfl rfl (by omega) ?_
        (try refine st ?_)
        have hjl : j = l.length := by omega
        rw [hjl, List.take_length] at g4
        have hi : ((i : Int) - ((0 : Nat) : Int)).toNat = i := by omega
        have hi2 : 0 + (i : Int).toNat = i := by omega
        refine fin_gv rfl (gv_front (ts := (l.filter fun x => !p x).map V.i) rfl ?_ ?_ (allL_map fun _ => okA)) rfl
        · rw [hi, hi2, splice_length _ _ _ (by simp; omega)]; simp; omega
        · rw [hi, hi2, splice_take (by simp; omega), ← List.map_take, g4]
theorem k_DeleteFunc2 (f : Nat) (v w : V) (p : Int → Bool) (l : List Int) (hmd : Γ.md f = some []) (hl : Bnd.ok l) (hp : ∀ x ∈ l, CALLB Γ T f [] [.i x, .rp v, .rp w] = some (.b (p x), [])) :
    CALLB Γ T 103 [.tk, .ro] [oI l, .cl f [.rp v, .rp w]] = some (oI (l.filter fun x => !p x), []) := by
  have hle := ok_len hl
  refine call_md' rfl rfl rfl rfl tkLA ?_
  by_cases hm1 : idxFrom p l 0 = -1
  · repeat' (first|refine st ?_|refine u0 ?_|refine u1 ?_|refine u2 ?_|refine u3 ?_|refine u4 ?_|refine u5 ?_|refine u6 ?_|(apply i_ca;first|(apply i_f 118;refine c0 (k_IndexFuncI2 f v w p l hmd hl hp) ?_))|(refine Br.mk ?_ ?_<;>intro hc)|(refine An.mk ?_;intro x hx))
    rw [filter_self]
    intro x hx
    rw [idxFrom_ge hm1 x hx]; rfl
  · obtain ⟨j0, x0, h1, h2, h3, h4⟩ := idxFrom_at hm1
    rw [Nat.zero_add] at h1
    have hk := k_IndexFuncI2 f v w p l hmd hl hp
    rw [h1] at hk
    have hj0 := (List.getElem?_eq_some_iff.1 h2).1
    (try refine st ?_)
    refine c0 (hk) ?_
    repeat' (first|refine st ?_|refine u0 ?_|refine u1 ?_|refine u2 ?_|refine u3 ?_|refine u4 ?_|refine u5 ?_|refine u6 ?_|(refine Br.mk ?_ ?_<;>intro hc)|(refine An.mk ?_;intro x hx))
    refine wp_while (fun (x : Nat × Nat × List Int) => ⟨envA [(0, .hs 0 0 l.length l.length), (1, .cl f [.rp v, .rp w]), (5, .i (x.1 : Nat)), (6, .i (x.2.1 : Nat))], heapA [some ⟨1, (x.2.2.map V.i), false⟩], 1, false⟩) (fun (x : Nat × Nat × List Int) => x.2.2.length = l.length ∧ x.2.1 ≤ l.length ∧ x.1 < x.2.1 ∧ x.2.2.take x.1 = (l.take x.2.1).filter (fun x => !p x) ∧ x.2.2.drop x.2.1 = l.drop x.2.1) (fun (x : Nat × Nat × List Int) => l.length - x.2.1) ((j0, j0 + 1, l)) nm ?_ ?_
    · refine ⟨rfl, by show j0 + 1 ≤ l.length; omega, by show j0 < j0 + 1; omega, ?_, rfl⟩
      show l.take j0 = (l.take (j0 + 1)).filter _
      rw [filter_take h2, h3, filter_self fun y hy => by rw [h4 y hy]; rfl]
      simp
    · rintro ⟨i, j, e⟩ ⟨g1, g2, g3, g4, g5⟩
      simp only at g1 g2 g3 g4 g5
      dsimp only
      by_cases hj : j < l.length
      · have hx := drop_get g5 (List.getElem?_eq_getElem hj)
        have hxl : l[j]? = some l[j] := List.getElem?_eq_getElem hj
        generalize l[j] = x at hx hxl
        have hpx := hp x (List.mem_of_getElem? hxl)
        repeat' (first|refine st ?_|refine u0 ?_|refine u1 ?_|refine u2 ?_|refine u3 ?_|refine u4 ?_|refine u5 ?_|refine u6 ?_|(apply i_ca;first|refine cv (hpx) ?_)|(refine Br.mk ?_ ?_<;>intro hc)|(refine An.mk ?_;intro x hx))
        · refine lp_n (i + 1, j + 1, e.set i x) (by show l.length - (j + 1) < l.length - j; omega) ⟨by simpa using g1, by show j + 1 ≤ _; omega, by show i + 1 < j + 1; omega, ?_, ?_⟩ nm
          · show (e.set i x).take (i + 1) = (l.take (j + 1)).filter _
            rw [take_set (by omega), g4, filter_take hxl, hc]; rfl
          · show (e.set i x).drop (j + 1) = l.drop (j + 1)
            rw [drop_set (by omega)]; exact drop_next g5
        · refine lp_n (i, j + 1, e) (by show l.length - (j + 1) < l.length - j; omega) ⟨g1, by show j + 1 ≤ _; omega, by show i < j + 1; omega, ?_, drop_next g5⟩ nm
          show e.take i = (l.take (j + 1)).filter _
          rw [g4, filter_take hxl, hc]; simp
      · repeat' (first|refine st ?_|refine u0 ?_|refine u1 ?_|refine u2 ?_|refine u3 ?_|refine u4 ?_|refine u5 ?_|refine u6 ?_|(refine Br.mk ?_ ?_<;>intro hc)|(refine An.mk ?_;intro x hx))
        refine g_sch rfl rfl rfl rfl rfl (by omega) ?_
        refine g_cr rfl rfl rfl rfl (by simp; omega) ?_
        repeat' (first|refine st ?_|refine u0 ?_|refine u1 ?_|refine u2 ?_|refine u3 ?_|refine u4 ?_|refine u5 ?_|refine u6 ?_|(refine Br.mk ?_ ?_<;>intro hc)|(refine An.mk ?_;intro x hx))
        refine g_sch rfl rfl rfl rfl rfl (by omega) ?_
        (try refine st ?_)
        have hjl : j = l.length := by omega
        rw [hjl, List.take_length] at g4
        have hi : ((i : Int) - ((0 : Nat) : Int)).toNat = i := by omega
        have hi2 : 0 + (i : Int).toNat = i := by omega
        refine fin_gv rfl (gv_front (ts := (l.filter fun x => !p x).map V.i) rfl ?_ ?_ (allL_map fun _ => okA)) rfl
        · rw [hi, hi2, splice_length _ _ _ (by simp; omega)]; simp; omega
        · rw [hi, hi2, splice_take (by simp; omega), ← List.map_take, g4]
theorem k_all (c : List Int) (w : List (List Int)) : CALLB Γ T 84 [.tk, .ro] [oI c, eL eR w] = some (oI c, []) := by
  refine call_md' rfl rfl rfl rfl tkLA ?_
  repeat' (first|refine st ?_|refine u0 ?_|refine u1 ?_|refine u2 ?_|refine u3 ?_|refine u4 ?_|refine u5 ?_|refine u6 ?_|(refine Br.mk ?_ ?_<;>intro hc)|(refine An.mk ?_;intro x hx))
  rfl
theorem canD_sub {l : List (List Int)} {rows left : List Int} : ∀ k ∈ canD l rows left, k ∈ left := fun k hk => (List.mem_filter.1 hk).1
theorem InD.sub {l : List (List Int)} {n : Int} {left rows left' rows' : List Int} (h : InD l n left rows) (h1 : ∀ k ∈ left', k ∈ left) (h2 : ∀ i ∈ rows', i ∈ rows) : InD l n left' rows' :=
  ⟨h.row, h.n0, h.nl, h.ll, fun k hk => h.lf k (h1 k hk), fun i hi => h.rw_ i (h2 i hi)⟩
theorem restD_sub {c left : List Int} : ∀ k ∈ restD c left, k ∈ left := fun k hk => (List.mem_filter.1 hk).1
theorem keepD_sub {l : List (List Int)} {c rows : List Int} : ∀ k ∈ keepD l c rows, k ∈ rows := fun k hk => (List.mem_filter.1 hk).1
theorem restD_lt {l : List (List Int)} {rows left : List Int} (h : canD l rows left ≠ []) : (restD (canD l rows left) left).length < left.length := by
  obtain ⟨k, hk⟩ := List.exists_mem_of_ne_nil _ h
  unfold restD
  refine List.length_filter_lt_length_iff_exists.2 ⟨k, canD_sub k hk, by simp [hk]⟩
theorem ok_ints {l : List Int} (h : l.length ≤ 2 ^ 20) : Bnd.ok l := ⟨h, fun _ _ => trivial⟩
theorem rng_len (n : Nat) : (rng n).length = n := by simp [rng]
theorem rng_succ (n : Nat) : rng (n + 1) = rng n ++ [(n : Int)] := by simp [rng, List.range_succ]
theorem mem_rng {n : Nat} {k : Int} : k ∈ rng n ↔ 0 ≤ k ∧ k < n := by
  simp only [rng, List.mem_map, List.mem_range]
  constructor
  · rintro ⟨i, hi, rfl⟩
    simp
    omega
  · intro h; exact ⟨k.toNat, by omega, by simp; omega⟩
/-- The run, of any number of rounds that is enough. -/
theorem runD_more (l : List (List Int)) : ∀ (n m : Nat) (left rows : List Int) (st : List (List Int)), left.length ≤ n → n ≤ m → runD l m left rows st = runD l n left rows st
  | 0, m, left, rows, st, h, _ => by
    obtain rfl := List.length_eq_zero_iff.1 (Nat.le_zero.1 h)
    cases m <;> simp [runD]
  | n + 1, 0, left, rows, st, h, hm => by omega
  | n + 1, m + 1, left, rows, st, h, hm => by
    simp only [runD]
    split
    · rfl
    · split
      · rfl
      · rename_i hc
        have := restD_lt hc
        exact runD_more l n m _ _ _ (by omega) (by omega)
def runL (l : List (List Int)) (left rows : List Int) (st : List (List Int)) : List (List Int) × List Int × List Int := runD l left.length left rows st
theorem runL_step {l : List (List Int)} {left rows : List Int} {st : List (List Int)} (h : left ≠ []) (hc : canD l rows left ≠ []) : runL l left rows st = runL l (restD (canD l rows left) left) (keepD l (canD l rows left) rows) (st ++ [canD l rows left]) := by
  unfold runL
  obtain ⟨m, hm⟩ : ∃ m, left.length = m + 1 := ⟨left.length - 1, by have := List.length_pos_iff.2 h; omega⟩
  have := restD_lt hc
  rw [hm]
  simp only [runD, if_neg h, if_neg hc]
  exact runD_more l _ m _ _ _ (Nat.le_refl _) (by omega)
theorem runL_end {l : List (List Int)} {rows : List Int} {st : List (List Int)} : runL l [] rows st = (st, [], rows) := rfl
theorem runL_stuck {l : List (List Int)} {left rows : List Int} {st : List (List Int)} (h : left ≠ []) (hc : canD l rows left = []) : runL l left rows st = (st, left, rows) := by
  unfold runL
  obtain ⟨m, hm⟩ : ∃ m, left.length = m + 1 := ⟨left.length - 1, by have := List.length_pos_iff.2 h; omega⟩
  rw [hm]
  simp only [runD, if_neg h, hc, if_true]
abbrev oT (x : List (List Int) × List Int × List Int) : V := .tu [oL 1 oI x.1, oI x.2.1, oI x.2.2]
theorem k_l15Run (l : List (List Int)) (n : Int) (h : InD l n (rng n.toNat) (rng l.length)) : CALLB Γ T 82 [] [eL eR l, .i n] = some (oT (runL l (rng n.toNat) (rng l.length) []), []) := by
  have hle := h.ll
  have hn := h.nl
  have hn0 := h.n0
  apply call_ro' rfl rfl rfl rfl
  repeat' (first|refine st ?_|refine u0 ?_|refine u1 ?_|refine u2 ?_|refine u3 ?_|refine u4 ?_|refine u5 ?_|refine u6 ?_|(refine Br.mk ?_ ?_<;>intro hc)|(refine An.mk ?_;intro x hx))
  refine wp_upto (n.toNat) (fun _ g => ()) (fun i (_ : Unit) => ⟨envA [(0, eL eR l), (1, .i n), (7, .hs 0 0 (([] : List (List Int))).length (([] : List (List Int))).length), (8, .hs 1 0 ((rng i)).length ((rng i)).length), (9, .hs 2 0 (([] : List Int)).length (([] : List Int)).length), (10, .i (i : Nat))], heapA [some ⟨1, (([] : List (List Int))).map oI, false⟩, some ⟨1, ((rng i)).map V.i, false⟩, some ⟨1, (([] : List Int)).map V.i, false⟩], 3, false⟩) (()) (()) nm ?_ ?_ ?_
  · rfl
  · intro i g hi _
    have hrl := rng_len i
    repeat' (first|refine st ?_|refine u0 ?_|refine u1 ?_|refine u2 ?_|refine u3 ?_|refine u4 ?_|refine u5 ?_|refine u6 ?_|(refine Br.mk ?_ ?_<;>intro hc)|(refine An.mk ?_;intro x hx))
    exact ea_n () rfl (by rw [rng_succ]; exact nm)
  · intro g _
    repeat' (first|refine st ?_|refine u0 ?_|refine u1 ?_|refine u2 ?_|refine u3 ?_|refine u4 ?_|refine u5 ?_|refine u6 ?_|(refine Br.mk ?_ ?_<;>intro hc)|(refine An.mk ?_;intro x hx))
    refine wp_upto (l.length) (fun _ g => ()) (fun i (_ : Unit) => ⟨envA [(0, eL eR l), (7, .hs 0 0 (([] : List (List Int))).length (([] : List (List Int))).length), (8, .hs 1 0 ((rng n.toNat)).length ((rng n.toNat)).length), (9, .hs 2 0 ((rng i)).length ((rng i)).length), (11, .i (i : Nat))], heapA [some ⟨1, (([] : List (List Int))).map oI, false⟩, some ⟨1, ((rng n.toNat)).map V.i, false⟩, some ⟨1, ((rng i)).map V.i, false⟩], 3, false⟩) (()) (()) nm ?_ ?_ ?_
    · rfl
    · intro i g hi _
      have hrl := rng_len i
      repeat' (first|refine st ?_|refine u0 ?_|refine u1 ?_|refine u2 ?_|refine u3 ?_|refine u4 ?_|refine u5 ?_|refine u6 ?_|(refine Br.mk ?_ ?_<;>intro hc)|(refine An.mk ?_;intro x hx))
      exact ea_n () rfl (by rw [rng_succ]; exact nm)
    · intro g _
      repeat' (first|refine st ?_|refine u0 ?_|refine u1 ?_|refine u2 ?_|refine u3 ?_|refine u4 ?_|refine u5 ?_|refine u6 ?_|(refine Br.mk ?_ ?_<;>intro hc)|(refine An.mk ?_;intro x hx))
      refine wp_while (fun (x : Nat × List (List Int) × List Int × List Int) => ⟨envA [(0, eL eR l), (7, .hs 0 0 x.1 x.1), (8, .hs 1 0 (x.2.2.1).length (x.2.2.1).length), (9, .hs 2 0 (x.2.2.2).length (x.2.2.2).length)], heapA [some ⟨1, (x.2.1.map oI), false⟩, some ⟨1, (x.2.2.1).map V.i, false⟩, some ⟨1, (x.2.2.2).map V.i, false⟩], 3, false⟩) (fun (x : Nat × List (List Int) × List Int × List Int) => x.1 = x.2.1.length ∧ runL l x.2.2.1 x.2.2.2 x.2.1 = runL l (rng n.toNat) (rng l.length) [] ∧ InD l n x.2.2.1 x.2.2.2 ∧ x.2.1.length + x.2.2.1.length ≤ 2 ^ 20 ∧ x.2.2.2.length ≤ 2 ^ 20) (fun (x : Nat × List (List Int) × List Int × List Int) => x.2.2.1.length) ((0, [], rng n.toNat, rng l.length)) nm ?_ ?_
      · refine ⟨rfl, rfl, h, ?_, ?_⟩
        · show 0 + (rng n.toNat).length ≤ _; rw [rng_len]; omega
        · show (rng l.length).length ≤ _; rw [rng_len]; omega
      · rintro ⟨m, sa, left, rows⟩ ⟨hm, hF, hD, hb1, hb2⟩
        simp only at hm hF hD hb1 hb2
        subst hm
        dsimp only
        have ok1 : Bnd.ok left := ok_ints (by omega)
        have ok2 : Bnd.ok rows := ok_ints (by omega)
        have hcl : (canD l rows left).length ≤ left.length := List.length_filter_le _ _
        repeat' (first|refine st ?_|refine u0 ?_|refine u1 ?_|refine u2 ?_|refine u3 ?_|refine u4 ?_|refine u5 ?_|refine u6 ?_|(apply i_ca;first|(apply i_f 99;refine c0 (k_l15Stratum l n rows left ok1 ok2 hD) ?_))|(refine Br.mk ?_ ?_<;>intro hc)|(refine An.mk ?_;intro x hx))
        · have hc0 : canD l rows left = [] := List.length_eq_zero_iff.1 (by omega)
          have hl0 : left ≠ [] := by rintro rfl; simp at *
          rw [runL_stuck hl0 hc0] at hF
          rw [← hF]
          exact ⟨rfl, rfl, rfl, trivial⟩
        · have ok3 : Bnd.ok (canD l rows left) := ok_ints (by omega)
          have hc0 : canD l rows left ≠ [] := fun hh => by rw [hh] at hc; exact hc rfl
          have hl0 : left ≠ [] := by rintro rfl; exact hc0 rfl
          have hlt := restD_lt hc0
          rw [runL_step hl0 hc0] at hF
          have hD2 := hD.sub (left' := canD l rows left) (rows' := rows) canD_sub fun _ h => h
          have hD3 := hD.sub (left' := restD (canD l rows left) left) (rows' := keepD l (canD l rows left) rows) restD_sub keepD_sub
          have hkl : (keepD l (canD l rows left) rows).length ≤ rows.length := List.length_filter_le _ _
          generalize hcv : canD l rows left = c at *
          refine wp_eachI (left) (fun r acc => acc ++ restD c r) (fun i (acc : List Int) => ⟨envA [(0, eL eR l), (7, .hs 0 0 (sa.length + 1) (sa.length + 1)), (8, .hs 1 0 (left).length (left).length), (9, .hs 2 0 (rows).length (rows).length), (12, .hs 3 0 (c).length (c).length), (13, .hs 4 0 (acc).length (acc).length), (14, .i (i : Nat))], heapA [some ⟨1, (sa.map oI ++ [.hs 3 0 c.length c.length]), false⟩, some ⟨1, (left).map V.i, false⟩, some ⟨1, (rows).map V.i, false⟩, some ⟨1, (c).map V.i, false⟩, some ⟨1, (acc).map V.i, false⟩], 5, false⟩) ([]) (restD c left) (fun i (acc : List Int) => acc.length ≤ i) nm ?_ ?_ ?_ ?_
          · rfl
          · simp
          · intro i acc k hi hx hm hF2 hI
            repeat' (first|refine st ?_|refine u0 ?_|refine u1 ?_|refine u2 ?_|refine u3 ?_|refine u4 ?_|refine u5 ?_|refine u6 ?_|(apply i_ca;first|(apply i_f 100;refine c0 (k_l12Has c k ok3) ?_))|(refine Br.mk ?_ ?_<;>intro hc)|(refine An.mk ?_;intro x hx))
            · exact ei_n (acc ++ [k]) (by simpa [restD, hc] using hF2) (by simp; omega) nm
            · exact ei_n acc (by simpa [restD, hc] using hF2) (by omega) nm
          · intro acc hF2 hI
            have hacc : acc = restD c left := by simpa [restD] using hF2
            subst hacc
            repeat' (first|refine st ?_|refine u0 ?_|refine u1 ?_|refine u2 ?_|refine u3 ?_|refine u4 ?_|refine u5 ?_|refine u6 ?_|(refine Br.mk ?_ ?_<;>intro hc)|(refine An.mk ?_;intro x hx))
            refine wp_eachI (rows) (fun r acc => acc ++ keepD l c r) (fun i (acc : List Int) => ⟨envA [(0, eL eR l), (7, .hs 0 0 (sa.length + 1) (sa.length + 1)), (8, .hs 1 0 ((restD c left)).length ((restD c left)).length), (9, .hs 2 0 (rows).length (rows).length), (12, .hs 3 0 (c).length (c).length), (15, .hs 4 0 (acc).length (acc).length), (16, .i (i : Nat))], heapA [some ⟨1, (sa.map oI ++ [.hs 3 0 c.length c.length]), false⟩, some ⟨1, ((restD c left)).map V.i, false⟩, some ⟨1, (rows).map V.i, false⟩, some ⟨1, (c).map V.i, false⟩, some ⟨1, (acc).map V.i, false⟩], 5, false⟩) ([]) (keepD l c rows) (fun i (acc : List Int) => acc.length ≤ i) nm ?_ ?_ ?_ ?_
            · rfl
            · simp
            · intro i acc y hi hx hym hF3 hI2
              repeat' (first|refine st ?_|refine u0 ?_|refine u1 ?_|refine u2 ?_|refine u3 ?_|refine u4 ?_|refine u5 ?_|refine u6 ?_|(refine Br.mk ?_ ?_<;>intro hc)|(refine An.mk ?_;intro x hx))
              refine wp_each (c) (fun r g => g || r.any (fun k => decide (mkD l y k = 1))) (fun j (g : Bool) => ⟨envA [(0, eL eR l), (7, .hs 0 0 (sa.length + 1) (sa.length + 1)), (8, .hs 1 0 ((restD c left)).length ((restD c left)).length), (9, .hs 2 0 (rows).length (rows).length), (12, .hs 3 0 (c).length (c).length), (15, .hs 4 0 (acc).length (acc).length), (16, .i (i : Nat)), (17, .b g), (18, .i (j : Nat))], heapA [some ⟨1, (sa.map oI ++ [.hs 3 0 c.length c.length]), false⟩, some ⟨1, ((restD c left)).map V.i, false⟩, some ⟨1, (rows).map V.i, false⟩, some ⟨1, (c).map V.i, false⟩, some ⟨1, (acc).map V.i, false⟩], 5, false⟩) (false) (wonD l c y) nm ?_ ?_ ?_
              · rfl
              · intro j g k hj hk hkm hF4
                obtain ⟨r, m, g1, g2, g3, g4, g5⟩ := hD2.cell hym (hD2.lf k hkm)
                have h6 := hD2.rw_ y hym
                have h7 := hD2.lf k hkm
                repeat' (first|refine st ?_|refine u0 ?_|refine u1 ?_|refine u2 ?_|refine u3 ?_|refine u4 ?_|refine u5 ?_|refine u6 ?_|(refine Br.mk ?_ ?_<;>intro hc)|(refine An.mk ?_;intro x hx))
                · exact ea_n true (by simpa [hc] using hF4) nm
                · exact ea_n (decide (m = 1)) (by simpa [g5, hc] using hF4) nm
              · intro g hF4
                have hg : g = wonD l c y := by simpa using hF4
                subst hg
                repeat' (first|refine st ?_|refine u0 ?_|refine u1 ?_|refine u2 ?_|refine u3 ?_|refine u4 ?_|refine u5 ?_|refine u6 ?_|(refine Br.mk ?_ ?_<;>intro hc)|(refine An.mk ?_;intro x hx))
                · exact ei_n (acc ++ [y]) (by simpa [keepD, hc] using hF3) (by simp; omega) nm
                · exact ei_n acc (by simpa [keepD, hc] using hF3) (by omega) nm
            · intro acc hF3 hI2
              have hacc : acc = keepD l c rows := by simpa [keepD] using hF3
              subst hacc
              repeat' (first|refine st ?_|refine u0 ?_|refine u1 ?_|refine u2 ?_|refine u3 ?_|refine u4 ?_|refine u5 ?_|refine u6 ?_|(refine Br.mk ?_ ?_<;>intro hc)|(refine An.mk ?_;intro x hx))
              exact lp_n (sa.length + 1, sa ++ [c], restD c left, keepD l c rows) hlt ⟨by simp, hF, hD3, by simp; omega, by simp; omega⟩ nm
        · have hl0 : left = [] := List.length_eq_zero_iff.1 (by omega)
          subst hl0
          rw [runL_end] at hF
          rw [← hF]
          exact ⟨rfl, rfl, rfl, trivial⟩
def pickD (l : List (List Int)) (rows : List Int) : List (List Int) := rows.map fun i => l.getD i.toNat []
theorem pickD_any {l : List (List Int)} {k : Int} : ∀ {rows : List Int}, (pickD l rows).any (fun r => decide (r.getD k.toNat 0 = -1)) = !fineD l rows k
  | [] => rfl
  | i :: rows => by
    have h := pickD_any (l := l) (k := k) (rows := rows)
    simp only [pickD, List.map_cons, List.any_cons, fineD, List.all_cons] at h ⊢
    rw [h]
    simp [mkD]
theorem k_demote (l : List (List Int)) (n : Int) (h : InD l n (rng n.toNat) (rng l.length)) : CALLB Γ T 83 [] [eL eR l, .i n, .cl 84 []] = some (.tu [oL 1 oI (runL l (rng n.toNat) (rng l.length) []).1, if (runL l (rng n.toNat) (rng l.length) []).2.1 = [] then .e0 else oI (runL l (rng n.toNat) (rng l.length) []).2.2], []) := by
  have hle := h.ll
  have hn := h.nl
  have hn0 := h.n0
  have okl := h.ok
  apply call_ro' rfl rfl rfl rfl
  repeat' (first|refine st ?_|refine u0 ?_|refine u1 ?_|refine u2 ?_|refine u3 ?_|refine u4 ?_|refine u5 ?_|refine u6 ?_|(refine Br.mk ?_ ?_<;>intro hc)|(refine An.mk ?_;intro x hx))
  refine wp_upto (n.toNat) (fun _ g => ()) (fun i (_ : Unit) => ⟨envA [(2, .cl 84 []), (3, .hp 0 0), (8, .hs 1 0 (([] : List (List Int))).length (([] : List (List Int))).length), (9, .hs 2 0 ((rng i)).length ((rng i)).length), (10, .hs 3 0 (([] : List Int)).length (([] : List Int)).length), (22, .i n), (23, .i (i : Nat))], heapA [some ⟨1, [eL eR l], false⟩, some ⟨1, (([] : List (List Int))).map oI, false⟩, some ⟨1, ((rng i)).map V.i, false⟩, some ⟨1, (([] : List Int)).map V.i, false⟩], 4, false⟩) (()) (()) nm ?_ ?_ ?_
  · rfl
  · intro i g hi _
    have hrl := rng_len i
    repeat' (first|refine st ?_|refine u0 ?_|refine u1 ?_|refine u2 ?_|refine u3 ?_|refine u4 ?_|refine u5 ?_|refine u6 ?_|(refine Br.mk ?_ ?_<;>intro hc)|(refine An.mk ?_;intro x hx))
    exact ea_n () rfl (by rw [rng_succ]; exact nm)
  · intro g _
    repeat' (first|refine st ?_|refine u0 ?_|refine u1 ?_|refine u2 ?_|refine u3 ?_|refine u4 ?_|refine u5 ?_|refine u6 ?_|(refine Br.mk ?_ ?_<;>intro hc)|(refine An.mk ?_;intro x hx))
    refine wp_upto (l.length) (fun _ g => ()) (fun i (_ : Unit) => ⟨envA [(2, .cl 84 []), (3, .hp 0 0), (8, .hs 1 0 (([] : List (List Int))).length (([] : List (List Int))).length), (9, .hs 2 0 ((rng n.toNat)).length ((rng n.toNat)).length), (10, .hs 3 0 ((rng i)).length ((rng i)).length), (32, .i l.length), (33, .i (i : Nat))], heapA [some ⟨1, [eL eR l], false⟩, some ⟨1, (([] : List (List Int))).map oI, false⟩, some ⟨1, ((rng n.toNat)).map V.i, false⟩, some ⟨1, ((rng i)).map V.i, false⟩], 4, false⟩) (()) (()) nm ?_ ?_ ?_
    · rfl
    · intro i g hi _
      have hrl := rng_len i
      repeat' (first|refine st ?_|refine u0 ?_|refine u1 ?_|refine u2 ?_|refine u3 ?_|refine u4 ?_|refine u5 ?_|refine u6 ?_|(refine Br.mk ?_ ?_<;>intro hc)|(refine An.mk ?_;intro x hx))
      exact ea_n () rfl (by rw [rng_succ]; exact nm)
    · intro g _
      repeat' (first|refine st ?_|refine u0 ?_|refine u1 ?_|refine u2 ?_|refine u3 ?_|refine u4 ?_|refine u5 ?_|refine u6 ?_|(refine Br.mk ?_ ?_<;>intro hc)|(refine An.mk ?_;intro x hx))
      refine wp_while (fun (x : Nat × List (List Int) × List Int × List Int) => ⟨envA [(2, .cl 84 []), (3, .hp 0 0), (8, .hs 1 0 x.1 x.1), (9, .hs 2 0 (x.2.2.1).length (x.2.2.1).length), (10, .hs 3 0 (x.2.2.2).length (x.2.2.2).length)], heapA [some ⟨1, [eL eR l], false⟩, some ⟨1, (x.2.1.map oI), false⟩, some ⟨1, (x.2.2.1).map V.i, false⟩, some ⟨1, (x.2.2.2).map V.i, false⟩], 4, false⟩) (fun (x : Nat × List (List Int) × List Int × List Int) => x.1 = x.2.1.length ∧ runL l x.2.2.1 x.2.2.2 x.2.1 = runL l (rng n.toNat) (rng l.length) [] ∧ InD l n x.2.2.1 x.2.2.2 ∧ x.2.1.length + x.2.2.1.length ≤ 2 ^ 20 ∧ x.2.2.2.length ≤ 2 ^ 20) (fun (x : Nat × List (List Int) × List Int × List Int) => x.2.2.1.length) ((0, [], rng n.toNat, rng l.length)) nm ?_ ?_
      · refine ⟨rfl, rfl, h, ?_, ?_⟩
        · show 0 + (rng n.toNat).length ≤ _; rw [rng_len]; omega
        · show (rng l.length).length ≤ _; rw [rng_len]; omega
      · rintro ⟨m, sa, left, rows⟩ ⟨hm, hF, hD, hb1, hb2⟩
        simp only at hm hF hD hb1 hb2
        subst hm
        dsimp only
        have ok1 : Bnd.ok left := ok_ints (by omega)
        have ok2 : Bnd.ok rows := ok_ints (by omega)
        have hcl : (canD l rows left).length ≤ left.length := List.length_filter_le _ _
        repeat' (first|refine st ?_|refine u0 ?_|refine u1 ?_|refine u2 ?_|refine u3 ?_|refine u4 ?_|refine u5 ?_|refine u6 ?_|(refine Br.mk ?_ ?_<;>intro hc)|(refine An.mk ?_;intro x hx))
        · have hl0 : left ≠ [] := by rintro rfl; simp at hc
          have okp : Bnd.ok (pickD l rows) := ⟨by simp [pickD]; omega, fun x hx => by
            obtain ⟨y, hy, rfl⟩ := List.mem_map.1 hx
            have h6 := hD.rw_ y hy
            rw [List.getD_eq_getElem?_getD, List.getElem?_eq_getElem (by omega)]
            exact ok_mem okl (List.getElem_mem _)⟩
          refine wp_eachI (rows) (fun r acc => acc ++ pickD l r) (fun i (acc : List (List Int)) => ⟨envA [(2, .cl 84 []), (3, .hp 0 0), (8, .hs 1 0 sa.length sa.length), (9, .hs 2 0 (left).length (left).length), (10, .hs 4 0 (rows).length (rows).length), (13, .hs 3 0 (acc).length (acc).length), (45, .hs 4 0 (rows).length (rows).length), (46, .i (rows).length), (47, .i (i : Nat))], heapA [some ⟨1, [eL eR l], false⟩, some ⟨1, (sa.map oI), false⟩, some ⟨1, (left).map V.i, false⟩, some ⟨1, (acc).map eR, false⟩, some ⟨1, (rows).map V.i, false⟩], 5, false⟩) ([]) (pickD l rows) (fun i (acc : List (List Int)) => acc.length ≤ i) nm ?_ ?_ ?_ ?_
          · rfl
          · simp
          · intro i acc y hi hx hm hF2 hI
            have h6 := hD.rw_ y hm
            have hly : l[y.toNat]? = some (l.getD y.toNat []) := by rw [List.getD_eq_getElem?_getD, List.getElem?_eq_getElem (by omega)]; rfl
            repeat' (first|refine st ?_|refine u0 ?_|refine u1 ?_|refine u2 ?_|refine u3 ?_|refine u4 ?_|refine u5 ?_|refine u6 ?_|(refine Br.mk ?_ ?_<;>intro hc)|(refine An.mk ?_;intro x hx))
            exact ei_n (acc ++ [l.getD y.toNat []]) (by simpa [pickD] using hF2) (by simp; omega) nm
          · intro acc hF2 hI
            have hacc : acc = pickD l rows := by simpa [pickD] using hF2
            subst hacc
            repeat' (first|refine st ?_|refine u0 ?_|refine u1 ?_|refine u2 ?_|refine u3 ?_|refine u4 ?_|refine u5 ?_|refine u6 ?_|(refine Br.mk ?_ ?_<;>intro hc)|(refine An.mk ?_;intro x hx))
            refine wp_eachI (left) (fun r acc => acc ++ r.filter (fineD l rows)) (fun i (acc : List Int) => ⟨envA [(2, .cl 84 []), (3, .hp 0 0), (8, .hs 1 0 sa.length sa.length), (9, .hs 5 0 (left).length (left).length), (10, .hs 2 0 (rows).length (rows).length), (13, .hs 3 0 ((pickD l rows)).length ((pickD l rows)).length), (16, .hp 4 0), (60, .hs 5 0 (left).length (left).length), (61, .i (left).length), (62, .i (i : Nat))], heapA [some ⟨1, [eL eR l], false⟩, some ⟨1, (sa.map oI), false⟩, some ⟨1, (rows).map V.i, false⟩, some ⟨1, ((pickD l rows)).map eR, false⟩, some ⟨1, [(oI acc)], false⟩, some ⟨1, (left).map V.i, false⟩], 6, false⟩) ([]) (canD l rows left) (fun i (acc : List Int) => acc.length ≤ i) nm ?_ ?_ ?_ ?_
            · rfl
            · simp
            · intro i acc k hi hx hm hF3 hI3
              have h7 := hD.lf k hm
              have hcl1 : ∀ x ∈ pickD l rows, CALLB Γ T 102 [] [eR x, .rp (.i k)] = some (.b (decide (x.getD k.toNat 0 = -1)), []) := by
                intro x hxm
                obtain ⟨y, hy, rfl⟩ := List.mem_map.1 hxm
                obtain ⟨r, m, g1, g2, _, _, g5⟩ := hD.cell hy h7
                have e1 : l.getD y.toNat [] = r := by rw [List.getD_eq_getElem?_getD, g1]; rfl
                rw [e1]
                exact k_demote1 r k _ h7.1 (by rw [List.getD_eq_getElem?_getD, g2]; rfl)
              repeat' (first|refine st ?_|refine u0 ?_|refine u1 ?_|refine u2 ?_|refine u3 ?_|refine u4 ?_|refine u5 ?_|refine u6 ?_|(apply i_ca;first|(apply i_f 101;refine c0 (k_ContainsFuncR 102 (.i k) _ (pickD l rows) rfl okp hcl1) ?_))|(refine Br.mk ?_ ?_<;>intro hc)|(refine An.mk ?_;intro x hx))
              · have hf : fineD l rows k = true := by have h8 := pickD_any (l := l) (k := k) (rows := rows); rw [hc] at h8; simpa using h8
                refine g_ldU rfl rfl ?_ rfl
                repeat' (first|refine st ?_|refine u0 ?_|refine u1 ?_|refine u2 ?_|refine u3 ?_|refine u4 ?_|refine u5 ?_|refine u6 ?_|(refine Br.mk ?_ ?_<;>intro hc)|(refine An.mk ?_;intro x hx))
                exact ei_n (acc ++ [k]) (by simpa [hf] using hF3) (by simp; omega) nm
              · have hf : fineD l rows k = false := by have h8 := pickD_any (l := l) (k := k) (rows := rows); rw [hc] at h8; simpa using h8
                exact ei_n acc (by simpa [hf] using hF3) (by omega) nm
            · intro acc hF3 hI3
              have hacc : acc = canD l rows left := by simpa using hF3
              subst hacc
              (try refine st ?_)
              refine g_ldU rfl rfl ?_ rfl
              repeat' (first|refine st ?_|refine u0 ?_|refine u1 ?_|refine u2 ?_|refine u3 ?_|refine u4 ?_|refine u5 ?_|refine u6 ?_|(refine Br.mk ?_ ?_<;>intro hc)|(refine An.mk ?_;intro x hx))
              · have hc0 : canD l rows left = [] := List.length_eq_zero_iff.1 (by omega)
                rw [runL_stuck hl0 hc0] at hF
                rw [← hF, if_neg hl0]
                refine fin ?_
                exact ⟨rfl, rfl, trivial⟩
              · have ok3 : Bnd.ok (canD l rows left) := ok_ints (by omega)
                have hc0 : canD l rows left ≠ [] := fun hh => by rw [hh] at hc; exact hc rfl
                have hlt := restD_lt hc0
                rw [runL_step hl0 hc0] at hF
                have hD2 := hD.sub (left' := canD l rows left) (rows' := rows) canD_sub fun _ h => h
                have hD3 := hD.sub (left' := restD (canD l rows left) left) (rows' := keepD l (canD l rows left) rows) restD_sub keepD_sub
                have hkl : (keepD l (canD l rows left) rows).length ≤ rows.length := List.length_filter_le _ _
                generalize hcv : canD l rows left = c at *
                refine ct (k_all c (pickD l rows)) ?_
                repeat' (first|refine st ?_|refine u0 ?_|refine u1 ?_|refine u2 ?_|refine u3 ?_|refine u4 ?_|refine u5 ?_|refine u6 ?_|(refine Br.mk ?_ ?_<;>intro hc)|(refine An.mk ?_;intro x hx))
                refine ct (k_DeleteFunc 104 (eI c) (fun k => decide (k ∈ c)) left rfl ok1 fun x _ => k_demote2 c x ok3) ?_
                repeat' (first|refine st ?_|refine u0 ?_|refine u1 ?_|refine u2 ?_|refine u3 ?_|refine u4 ?_|refine u5 ?_|refine u6 ?_|(refine Br.mk ?_ ?_<;>intro hc)|(refine An.mk ?_;intro x hx))
                refine ct (k_DeleteFunc2 105 (eI c) (eL eR l) (wonD l c) rows rfl ok2 fun x hx => k_demote3 l n c rows x ok3 hD2 hx) ?_
                repeat' (first|refine st ?_|refine u0 ?_|refine u1 ?_|refine u2 ?_|refine u3 ?_|refine u4 ?_|refine u5 ?_|refine u6 ?_|(refine Br.mk ?_ ?_<;>intro hc)|(refine An.mk ?_;intro x hx))
                exact lp_n (sa.length + 1, sa ++ [c], restD c left, keepD l c rows) hlt ⟨by simp, hF, hD3, by simp; omega, by simp; omega⟩ nm
        · have hl0 : left = [] := List.length_eq_zero_iff.1 (by omega)
          subst hl0
          rw [runL_end] at hF
          rw [← hF, if_pos rfl]
          refine fin ?_
          exact ⟨rfl, trivial, trivial⟩
theorem areRows_ind {l : List (List Int)} {n : Int} (h : areRows l n = true) : InD l n (rng n.toNat) (rng l.length) := by
  simp only [areRows, Bool.and_eq_true, List.all_eq_true, decide_eq_true_eq] at h
  obtain ⟨h1, h2, h3⟩ := h
  refine ⟨fun r hr => ?_, by omega, by omega, by omega, fun k hk => ?_, fun i hi => ?_⟩
  · have := h1 r hr
    simp only [isRow, Bool.and_eq_true, decide_eq_true_eq] at this
    exact this.2.2
  · have := mem_rng.1 hk; omega
  · have := mem_rng.1 hi; omega
/-- The run over rows. -/
def runA (l : List (List Int)) (n : Int) : List (List Int) × List Int × List Int := runL l (rng n.toNat) (rng l.length) []
def isCons (l : List (List Int)) (n : Int) : Bool := areRows l n && decide ((runA l n).2.1 = [])
/-- Where constraints are left, rows are left. -/
theorem run_rows (l : List (List Int)) : ∀ (n : Nat) (left rows : List Int) (sa : List (List Int)), (runD l n left rows sa).2.1 ≠ [] → left.length ≤ n → (runD l n left rows sa).2.2 ≠ []
  | 0, left, rows, sa, h, hl => by
    obtain rfl := List.length_eq_zero_iff.1 (Nat.le_zero.1 hl)
    exact absurd rfl h
  | n + 1, left, rows, sa, h, hl => by
    simp only [runD] at h ⊢
    split at h
    · rename_i h0; exact absurd h0 h
    · rename_i h0
      rw [if_neg h0]
      split at h
      · rename_i hc
        rw [if_pos hc]
        rintro rfl
        apply h0
        have hc' : ∀ a, a ∉ left := by simpa [canD, fineD] using hc
        exact List.eq_nil_iff_forall_not_mem.2 hc'
      · rename_i hc
        rw [if_neg hc]
        exact run_rows l n _ _ _ h (by have := restD_lt hc; omega)
theorem k_StrataOf (l : List (List Int)) (n : Int) (hl : Bnd.ok l) : CALLB Γ T 50 [] [eL eR l, .i n] = some (.tu [if isCons l n then oL 1 oI (runA l n).1 else .e0, .b (isCons l n)], []) := by
  apply call_ro' rfl rfl rfl rfl
  by_cases ha : areRows l n = true
  · have hi := areRows_ind ha
    have hd := k_demote l n hi
    by_cases h0 : (runA l n).2.1 = []
    · have hc0 : isCons l n = true := by simp [isCons, ha, h0]
      rw [show runL l (rng n.toNat) (rng l.length) [] = runA l n from rfl, if_pos h0] at hd
      rw [hc0, if_pos rfl]
      repeat' (first|refine st ?_|refine u0 ?_|refine u1 ?_|refine u2 ?_|refine u3 ?_|refine u4 ?_|refine u5 ?_|refine u6 ?_|(apply i_ca;first|(apply i_f 64;refine c0 (k_AreRows _ _ hl) ?_)|(apply i_f 83;refine c0 (hd) ?_))|(refine Br.mk ?_ ?_<;>intro hc)|(refine An.mk ?_;intro x hx))
      all_goals first | exact absurd (ha.symm.trans hc) (by decide) | exact ⟨rfl, rfl, trivial⟩
    · have hc0 : isCons l n = false := by simp [isCons, h0]
      have hr0 : (runA l n).2.2 ≠ [] := run_rows l _ _ _ _ h0 (Nat.le_refl _)
      have hr1 := List.length_pos_iff.2 hr0
      rw [show runL l (rng n.toNat) (rng l.length) [] = runA l n from rfl, if_neg h0] at hd
      rw [hc0, if_neg (by simp)]
      repeat' (first|refine st ?_|refine u0 ?_|refine u1 ?_|refine u2 ?_|refine u3 ?_|refine u4 ?_|refine u5 ?_|refine u6 ?_|(apply i_ca;first|(apply i_f 64;refine c0 (k_AreRows _ _ hl) ?_)|(apply i_f 83;refine c0 (hd) ?_))|(refine Br.mk ?_ ?_<;>intro hc)|(refine An.mk ?_;intro x hx))
      all_goals first | exact absurd (ha.symm.trans hc) (by decide) | exact ⟨trivial, rfl, trivial⟩
  · have hc0 : isCons l n = false := by simp [isCons, ha]
    rw [hc0, if_neg (by simp)]
    repeat' (first|refine st ?_|refine u0 ?_|refine u1 ?_|refine u2 ?_|refine u3 ?_|refine u4 ?_|refine u5 ?_|refine u6 ?_|(apply i_ca;first|(apply i_f 64;refine c0 (k_AreRows _ _ hl) ?_))|(refine Br.mk ?_ ?_<;>intro hc)|(refine An.mk ?_;intro x hx))
    all_goals first | exact absurd hc ha | exact ⟨trivial, rfl, trivial⟩
theorem k_sStrataOf (l : List (List Int)) (n : Int) (hl : Bnd.ok l) : CALLB Γ T 49 [] [eL eR l, .i n] = some (.tu [oL 1 oI (if isCons l n then (runA l n).1 else []), .b (isCons l n)], []) := by
  apply call_ro' rfl rfl rfl rfl
  by_cases ha : areRows l n = true
  · have hi := areRows_ind ha
    have hd := k_l15Run l n hi
    rw [show runL l (rng n.toNat) (rng l.length) [] = runA l n from rfl] at hd
    by_cases h0 : (runA l n).2.1 = []
    · have hc0 : isCons l n = true := by simp [isCons, ha, h0]
      rw [hc0, if_pos rfl]
      repeat' (first|refine st ?_|refine u0 ?_|refine u1 ?_|refine u2 ?_|refine u3 ?_|refine u4 ?_|refine u5 ?_|refine u6 ?_|(apply i_ca;first|(apply i_f 21;refine c0 (k_sAreRows _ _ hl) ?_)|refine c0 (hd) ?_)|(refine Br.mk ?_ ?_<;>intro hc)|(refine An.mk ?_;intro x hx))
      all_goals first | exact absurd (ha.symm.trans hc) (by decide) | exact ⟨rfl, rfl, trivial⟩ | (simp [h0] at hc; done)
    · have hc0 : isCons l n = false := by simp [isCons, h0]
      rw [hc0, if_neg (by simp)]
      repeat' (first|refine st ?_|refine u0 ?_|refine u1 ?_|refine u2 ?_|refine u3 ?_|refine u4 ?_|refine u5 ?_|refine u6 ?_|(apply i_ca;first|(apply i_f 21;refine c0 (k_sAreRows _ _ hl) ?_)|refine c0 (hd) ?_)|(refine Br.mk ?_ ?_<;>intro hc)|(refine An.mk ?_;intro x hx))
      all_goals first | exact absurd (ha.symm.trans hc) (by decide) | exact fin (P := (([] : List (List Int)) = []) ∧ (false = false) ∧ True) ⟨rfl, rfl, trivial⟩ (g := fun p => gv_tu (gv_cons p (fun p => gv_hs (l' := []) (f := oI) p rfl rfl (fun _ => okA)) fun p => gv_cons p (fun p => gv_b p) fun p => gv_nil p)) | (exact absurd (List.length_eq_zero_iff.1 (by simp at hc; omega)) h0) | (simp [h0] at hc; done)
  · have hc0 : isCons l n = false := by simp [isCons, ha]
    rw [hc0, if_neg (by simp)]
    repeat' (first|refine st ?_|refine u0 ?_|refine u1 ?_|refine u2 ?_|refine u3 ?_|refine u4 ?_|refine u5 ?_|refine u6 ?_|(apply i_ca;first|(apply i_f 21;refine c0 (k_sAreRows _ _ hl) ?_))|(refine Br.mk ?_ ?_<;>intro hc)|(refine An.mk ?_;intro x hx))
    all_goals first | exact absurd hc ha | exact fin (P := (([] : List (List Int)) = []) ∧ (false = false) ∧ True) ⟨rfl, rfl, trivial⟩ (g := fun p => gv_tu (gv_cons p (fun p => gv_hs (l' := []) (f := oI) p rfl rfl (fun _ => okA)) fun p => gv_cons p (fun p => gv_b p) fun p => gv_nil p))
def mk (k : Int) (n : Nat) : List Int := (List.range n).map fun j => k + (j : Nat)
theorem mk_succ (k : Int) (n : Nat) : mk k (n + 1) = mk k n ++ [k + (n : Nat)] := by simp [mk, List.range_succ]
theorem mk_len (k : Int) (n : Nat) : (mk k n).length = n := by simp [mk]
theorem mark_IntS (l : List Int) (k : Int) (hl : l.length ≤ 2 ^ 40) (hk : 0 ≤ k ∧ k ≤ 2 ^ 50) : CALLB Γ T 47 [.io, .ro] [ioT 1 V.i l, .i k] = some (.i (k + (l.length : Nat)), [ioT 1 V.i (mk k l.length)]) := by
  by_cases h0 : l = []
  · subst h0
    refine call_io rfl rfl rfl rfl tkLA ?_
    refine st ?_
    refine wp_while (fun (_ : Unit) => ⟨envA [(0, .sl []), (1, .i k), (5, .i 0)], heapA [], 0, false⟩) (fun (_ : Unit) => True) (fun (_ : Unit) => 0) (()) nm ?_ ?_
    · trivial
    · intro _ _
      repeat' (first|refine st ?_|refine u0 ?_|refine u1 ?_|refine u2 ?_|refine u3 ?_|refine u4 ?_|refine u5 ?_|refine u6 ?_|(refine Br.mk ?_ ?_<;>intro hc)|(refine An.mk ?_;intro x hx))
      refine io_r (fioS ?_)
      simp
  · rw [ioT_ne h0, ioT_ne (by intro h; exact h0 (List.length_eq_zero_iff.1 (by rw [← mk_len k l.length, h]; rfl)))]
    refine call_io rfl rfl rfl rfl tkLA ?_
    refine st ?_
    refine wp_eachI (l) (fun _ _ => ()) (fun i (g : List Int × Int) => ⟨envA [(0, .hs 0 0 l.length l.length), (1, .i g.2), (5, .i (i : Nat))], heapA [some ⟨1, g.1.map V.i, false⟩], 1, false⟩) ((l, k)) (()) (fun i (g : List Int × Int) => g.1.length = l.length ∧ g.1.take i = mk k i ∧ g.2 = k + (i : Nat)) nm ?_ ?_ ?_ ?_
    · rfl
    · exact ⟨rfl, rfl, by simp⟩
    · rintro i ⟨g, q⟩ x hi hx hm hF ⟨hg, hgt, rfl⟩
      dsimp only at hg hgt ⊢
      repeat' (first|refine st ?_|refine u0 ?_|refine u1 ?_|refine u2 ?_|refine u3 ?_|refine u4 ?_|refine u5 ?_|refine u6 ?_|(refine Br.mk ?_ ?_<;>intro hc)|(refine An.mk ?_;intro x hx))
      exact ei_n (g.set i (k + (i : Nat)), k + (i : Nat) + 1) rfl ⟨by simpa using hg, by rw [take_set (by omega), hgt, mk_succ], by show k + (i : Nat) + 1 = k + ((i + 1 : Nat) : Int); omega⟩ nm
    · rintro ⟨g, q⟩ hF ⟨hg, hgt, rfl⟩
      dsimp only at hg hgt ⊢
      repeat' (first|refine st ?_|refine u0 ?_|refine u1 ?_|refine u2 ?_|refine u3 ?_|refine u4 ?_|refine u5 ?_|refine u6 ?_|(refine Br.mk ?_ ?_<;>intro hc)|(refine An.mk ?_;intro x hx))
      have hm : g = mk k l.length := by rw [← hgt, ← hg, List.take_length]
      exact io_r (fioN rfl rfl (gv_hs ⟨hm⟩ rfl hg.symm (fun _ => okA)))
theorem ok_nilL {α : Type} [Bnd α] : Bnd.ok ([] : List α) := ⟨by simp, by simp⟩
/-- A list, marked from k on: 'f': an element marked; 'c': how many marks. -/
def mkS {α : Type} (f : Int → α → α) (c : α → Nat) : Int → List α → List α
  | _, [] => []
  | k, a :: l => f k a :: mkS f c (k + (c a : Nat)) l
def cnS {α : Type} (c : α → Nat) (l : List α) : Nat := (l.map c).sum
section
variable {α : Type} {f : Int → α → α} {c : α → Nat}
theorem mkS_len : ∀ (k : Int) (l : List α), (mkS f c k l).length = l.length
  | _, [] => rfl
  | k, a :: l => by simp [mkS, mkS_len]
theorem mkS_get : ∀ (k : Int) (l : List α) (i : Nat) (a : α), l[i]? = some a → (mkS f c k l)[i]? = some (f (k + (cnS c (l.take i) : Nat)) a)
  | _, [], _, _, h => by simp at h
  | k, b :: l, 0, a, h => by
    obtain rfl : b = a := by simpa using h
    simp [mkS, cnS]
  | k, b :: l, i + 1, a, h => by
    have := mkS_get (k + (c b : Nat)) l i a (by simpa using h)
    simp only [mkS, List.getElem?_cons_succ, this, cnS, List.take_succ_cons, List.map_cons, List.sum_cons]
    rw [show k + (c b : Nat) + (((l.take i).map c).sum : Nat) = k + ((c b + ((l.take i).map c).sum : Nat) : Int) by push_cast; omega]
theorem cnS_succ {l : List α} {i : Nat} {a : α} (h : l[i]? = some a) : cnS c (l.take (i + 1)) = cnS c (l.take i) + c a := by
  rw [List.take_add_one, h]; simp [cnS]
theorem cnS_all {l : List α} : cnS c (l.take l.length) = cnS c l := by rw [List.take_length]
theorem cnS_le {l : List α} {b : Nat} (h : ∀ a ∈ l, c a ≤ b) : cnS c l ≤ l.length * b := by
  induction l with
  | nil => simp [cnS]
  | cons a l ih =>
    have h1 := h a (by simp)
    have h2 := ih fun x hx => h x (by simp [hx])
    simp only [cnS, List.map_cons, List.sum_cons, List.length_cons, Nat.add_mul] at h2 ⊢
    omega
theorem cnS_take : ∀ {l : List α} {i : Nat}, cnS c (l.take i) ≤ cnS c l
  | [], i => by simp [cnS]
  | a :: l, 0 => by simp [cnS]
  | a :: l, i + 1 => by
    have := cnS_take (l := l) (i := i)
    simp only [cnS, List.take_succ_cons, List.map_cons, List.sum_cons] at this ⊢
    omega
theorem mkS_ne {k : Int} : ∀ {l : List α}, l ≠ [] → mkS f c k l ≠ []
  | [], h => absurd rfl h
  | _ :: _, _ => by simp [mkS]
end
abbrev mkIntSS (k : Int) (l : List (List Int)) : List (List Int) := mkS (fun k r => mk k r.length) List.length k l
theorem cn_IntSS {l : List (List Int)} (h : Bnd.ok l) : cnS List.length l ≤ 2 ^ 40 := by
  have h1 := cnS_le (c := List.length) (l := l) (b := 2 ^ 20) fun a ha => ok_len (ok_mem h ha)
  have h2 := ok_len h
  have : l.length * 2 ^ 20 ≤ 2 ^ 20 * 2 ^ 20 := Nat.mul_le_mul_right _ h2
  omega
theorem mark_IntSS (l : List (List Int)) (k : Int) (hl : Bnd.ok l) (hk : 0 ≤ k ∧ k ≤ 2 ^ 45) : CALLB Γ T 52 [.io, .ro] [ioT 1 oI l, .i k] = some (.i (k + (cnS List.length l : Nat)), [ioT 1 oI (mkIntSS k l)]) := by
  have hle := ok_len hl
  have hcn := cn_IntSS hl
  by_cases h0 : l = []
  · subst h0
    refine call_io rfl rfl rfl rfl tkLA ?_
    refine st ?_
    refine wp_while (fun (_ : Unit) => ⟨envA [(0, .sl []), (1, .i k), (5, .i 0)], heapA [], 0, false⟩) (fun (_ : Unit) => True) (fun (_ : Unit) => 0) (()) nm ?_ ?_
    · trivial
    · intro _ _
      repeat' (first|refine st ?_|refine u0 ?_|refine u1 ?_|refine u2 ?_|refine u3 ?_|refine u4 ?_|refine u5 ?_|refine u6 ?_|(refine Br.mk ?_ ?_<;>intro hc)|(refine An.mk ?_;intro x hx))
      refine io_r (fioS ?_)
      simp [cnS]
  · rw [ioT_ne h0, ioT_ne (mkS_ne h0)]
    refine call_io rfl rfl rfl rfl tkLA ?_
    refine st ?_
    refine wp_eachI (l) (fun _ _ => ()) (fun i (g : List (List Int) × Int) => ⟨envA [(0, .hs 0 0 l.length l.length), (1, .i g.2), (5, .i (i : Nat))], heapA [some ⟨1, g.1.map oI, false⟩], 1, false⟩) ((l, k)) (()) (fun i (g : List (List Int) × Int) => g.1 = mx i (mkIntSS k l) l ∧ g.2 = k + (cnS List.length (l.take i) : Nat)) nm ?_ ?_ ?_ ?_
    · rfl
    · exact ⟨mx_0.symm, by simp [cnS]⟩
    · rintro i ⟨g, q⟩ x hi hx hm hF ⟨hg, rfl⟩
      dsimp only at hg ⊢
      have hA : (mkIntSS k l).length = l.length := mkS_len _ _
      have hgi : g[i]? = some x := by rw [hg, mx_get hA hi]; exact hx
      have hgl : l.length = g.length := by rw [hg, mx_len hA]
      have hxl := ok_len (ok_mem hl hm)
      have hct := cnS_take (c := List.length) (l := l) (i := i)
      have hmk : x.length = (mk (k + (cnS List.length (l.take i) : Nat)) x.length).length := (mk_len _ _).symm
      repeat' (first|refine st ?_|refine u0 ?_|refine u1 ?_|refine u2 ?_|refine u3 ?_|refine u4 ?_|refine u5 ?_|refine u6 ?_|(apply i_ca;first|(apply i_f 47;refine ci (mark_IntS x (k + (cnS List.length (l.take i) : Nat)) (by omega) (by omega)) ?_ ?_))|(refine Br.mk ?_ ?_<;>intro hc)|(refine An.mk ?_;intro x hx))
      · exact mk_len _ _
      repeat' (first|refine st ?_|refine u0 ?_|refine u1 ?_|refine u2 ?_|refine u3 ?_|refine u4 ?_|refine u5 ?_|refine u6 ?_|(refine Br.mk ?_ ?_<;>intro hc)|(refine An.mk ?_;intro x hx))
      refine ei_n (g.set i (mk (k + (cnS List.length (l.take i) : Nat)) x.length), k + (cnS List.length (l.take i) : Nat) + (x.length : Nat)) rfl ⟨?_, ?_⟩ nm
      · rw [hg]; exact mx_set hA (mkS_get k l i x hx)
      · rw [cnS_succ hx]; push_cast; omega
    · rintro ⟨g, q⟩ hF ⟨hg, rfl⟩
      dsimp only at hg ⊢
      have hA : (mkIntSS k l).length = l.length := mkS_len _ _
      rw [mx_end hA] at hg
      have hgl : l.length = g.length := by rw [hg, hA]
      repeat' (first|refine st ?_|refine u0 ?_|refine u1 ?_|refine u2 ?_|refine u3 ?_|refine u4 ?_|refine u5 ?_|refine u6 ?_|(refine Br.mk ?_ ?_<;>intro hc)|(refine An.mk ?_;intro x hx))
      refine io_r (fioN ?_ rfl (gv_hs ⟨hg⟩ rfl hgl (fun _ => okA)))
      rw [cnS_all]
abbrev mkRowS (k : Int) (l : List (List Int)) : List (List Int) := mkS (fun k r => mk k r.length) List.length k l
theorem cn_RowS {l : List (List Int)} (h : Bnd.ok l) : cnS List.length l ≤ 2 ^ 40 := by
  have h1 := cnS_le (c := List.length) (l := l) (b := 2 ^ 20) fun a ha => ok_len (ok_mem h ha)
  have h2 := ok_len h
  have : l.length * 2 ^ 20 ≤ 2 ^ 20 * 2 ^ 20 := Nat.mul_le_mul_right _ h2
  omega
theorem mark_RowS (l : List (List Int)) (k : Int) (hl : Bnd.ok l) (hk : 0 ≤ k ∧ k ≤ 2 ^ 45) : CALLB Γ T 46 [.io, .ro] [ioT 1 oRow l, .i k] = some (.i (k + (cnS List.length l : Nat)), [ioT 1 oRow (mkRowS k l)]) := by
  have hle := ok_len hl
  have hcn := cn_RowS hl
  by_cases h0 : l = []
  · subst h0
    refine call_io rfl rfl rfl rfl tkLA ?_
    refine st ?_
    refine wp_while (fun (_ : Unit) => ⟨envA [(0, .sl []), (1, .i k), (5, .i 0)], heapA [], 0, false⟩) (fun (_ : Unit) => True) (fun (_ : Unit) => 0) (()) nm ?_ ?_
    · trivial
    · intro _ _
      repeat' (first|refine st ?_|refine u0 ?_|refine u1 ?_|refine u2 ?_|refine u3 ?_|refine u4 ?_|refine u5 ?_|refine u6 ?_|(refine Br.mk ?_ ?_<;>intro hc)|(refine An.mk ?_;intro x hx))
      refine io_r (fioS ?_)
      simp [cnS]
  · rw [ioT_ne h0, ioT_ne (mkS_ne h0)]
    refine call_io rfl rfl rfl rfl tkLA ?_
    refine st ?_
    refine wp_eachI (l) (fun _ _ => ()) (fun i (g : List (List Int) × Int) => ⟨envA [(0, .hs 0 0 l.length l.length), (1, .i g.2), (5, .i (i : Nat))], heapA [some ⟨1, g.1.map oRow, false⟩], 1, false⟩) ((l, k)) (()) (fun i (g : List (List Int) × Int) => g.1 = mx i (mkRowS k l) l ∧ g.2 = k + (cnS List.length (l.take i) : Nat)) nm ?_ ?_ ?_ ?_
    · rfl
    · exact ⟨mx_0.symm, by simp [cnS]⟩
    · rintro i ⟨g, q⟩ x hi hx hm hF ⟨hg, rfl⟩
      dsimp only at hg ⊢
      have hA : (mkRowS k l).length = l.length := mkS_len _ _
      have hgi : g[i]? = some x := by rw [hg, mx_get hA hi]; exact hx
      have hgl : l.length = g.length := by rw [hg, mx_len hA]
      have hxl := ok_len (ok_mem hl hm)
      have hct := cnS_take (c := List.length) (l := l) (i := i)
      have hmk : x.length = (mk (k + (cnS List.length (l.take i) : Nat)) x.length).length := (mk_len _ _).symm
      repeat' (first|refine st ?_|refine u0 ?_|refine u1 ?_|refine u2 ?_|refine u3 ?_|refine u4 ?_|refine u5 ?_|refine u6 ?_|(apply i_ca;first|(apply i_f 47;refine ci (mark_IntS x (k + (cnS List.length (l.take i) : Nat)) (by omega) (by omega)) ?_ ?_))|(refine Br.mk ?_ ?_<;>intro hc)|(refine An.mk ?_;intro x hx))
      · exact mk_len _ _
      repeat' (first|refine st ?_|refine u0 ?_|refine u1 ?_|refine u2 ?_|refine u3 ?_|refine u4 ?_|refine u5 ?_|refine u6 ?_|(refine Br.mk ?_ ?_<;>intro hc)|(refine An.mk ?_;intro x hx))
      refine ei_n (g.set i (mk (k + (cnS List.length (l.take i) : Nat)) x.length), k + (cnS List.length (l.take i) : Nat) + (x.length : Nat)) rfl ⟨?_, ?_⟩ nm
      · rw [hg]; exact mx_set hA (mkS_get k l i x hx)
      · rw [cnS_succ hx]; push_cast; omega
    · rintro ⟨g, q⟩ hF ⟨hg, rfl⟩
      dsimp only at hg ⊢
      have hA : (mkRowS k l).length = l.length := mkS_len _ _
      rw [mx_end hA] at hg
      have hgl : l.length = g.length := by rw [hg, hA]
      repeat' (first|refine st ?_|refine u0 ?_|refine u1 ?_|refine u2 ?_|refine u3 ?_|refine u4 ?_|refine u5 ?_|refine u6 ?_|(refine Br.mk ?_ ?_<;>intro hc)|(refine An.mk ?_;intro x hx))
      refine io_r (fioN ?_ rfl (gv_hs ⟨hg⟩ rfl hgl (fun _ => okA)))
      rw [cnS_all]
def heldI : List Int → Int → Int
  | [], k => k
  | x :: l, k => if x = k then heldI l (k + 1) else -1
theorem held_IntS' (l : List Int) (k : Int) (hl : l.length ≤ 2 ^ 40) (hk : 0 ≤ k ∧ k ≤ 2 ^ 50) : CALLB Γ T 48 [] [eI l, .i k] = some (.i (heldI l k), []) := by
  apply call_ro' rfl rfl rfl rfl
  repeat' (first|refine st ?_|refine u0 ?_|refine u1 ?_|refine u2 ?_|refine u3 ?_|refine u4 ?_|refine u5 ?_|refine u6 ?_|(refine Br.mk ?_ ?_<;>intro hc)|(refine An.mk ?_;intro x hx))
  refine wp_eachI (l) (fun r g => heldI r g) (fun i (g : Int) => ⟨envA [(0, eI l), (1, .i g), (5, .i (i : Nat))], heapA [], 0, false⟩) (k) (heldI l k) (fun i (g : Int) => g = k + (i : Nat)) nm ?_ ?_ ?_ ?_
  · rfl
  · simp
  · intro i g x hi hx hm hF hI
    repeat' (first|refine st ?_|refine u0 ?_|refine u1 ?_|refine u2 ?_|refine u3 ?_|refine u4 ?_|refine u5 ?_|refine u6 ?_|(refine Br.mk ?_ ?_<;>intro hc)|(refine An.mk ?_;intro x hx))
    · rw [← hF]; simp [heldI, hc]
    · exact ei_n (g + 1) (by rw [← hF]; simp_all [heldI]) (by omega) nm
  · intro g hF hI
    repeat' (first|refine st ?_|refine u0 ?_|refine u1 ?_|refine u2 ?_|refine u3 ?_|refine u4 ?_|refine u5 ?_|refine u6 ?_|(refine Br.mk ?_ ?_<;>intro hc)|(refine An.mk ?_;intro x hx))
    all_goals first | (rw [← hF]; rfl) | trace_state
theorem heldI_mk (n : Nat) : ∀ k : Int, heldI (mk k n) k = k + (n : Nat) := by
  induction n with
  | zero => intro k; simp [mk, heldI]
  | succ n ih =>
    intro k
    have : mk k (n + 1) = k :: mk (k + 1) n := by
      simp only [mk, List.range_succ_eq_map, List.map_cons, List.map_map]
      refine congr (congrArg _ (by simp)) (List.map_congr_left fun a _ => ?_)
      simp only [Function.comp]; omega
    rw [this, heldI, if_pos rfl, ih]; omega
theorem held_IntS (n : Nat) (k : Int) (hl : n ≤ 2 ^ 40) (hk : 0 ≤ k ∧ k ≤ 2 ^ 50) : CALLB Γ T 48 [] [eI (mk k n), .i k] = some (.i (k + (n : Nat)), []) := by
  rw [← heldI_mk n k]
  exact held_IntS' _ _ (by rw [mk_len]; exact hl) hk
theorem held_IntSS (l : List (List Int)) (k : Int) (hl : Bnd.ok l) (hk : 0 ≤ k ∧ k ≤ 2 ^ 45) : CALLB Γ T 53 [] [eL eI (mkIntSS k l), .i k] = some (.i (k + (cnS List.length l : Nat)), []) := by
  have hle := ok_len hl
  have hcn := cn_IntSS hl
  have hA : (mkIntSS k l).length = l.length := mkS_len _ _
  apply call_ro' rfl rfl rfl rfl
  repeat' (first|refine st ?_|refine u0 ?_|refine u1 ?_|refine u2 ?_|refine u3 ?_|refine u4 ?_|refine u5 ?_|refine u6 ?_|(refine Br.mk ?_ ?_<;>intro hc)|(refine An.mk ?_;intro x hx))
  refine wp_eachI (l) (fun _ _ => ()) (fun i (g : Int) => ⟨envA [(0, eL eI (mkIntSS k l)), (1, .i g), (5, .i (i : Nat))], heapA [], 0, false⟩) (k) (()) (fun i (g : Int) => g = k + (cnS List.length (l.take i) : Nat)) nm ?_ ?_ ?_ ?_
  · rfl
  · simp [cnS]
  · rintro i g x hi hx hm hF rfl
    have hxm := mkS_get (f := fun k r => mk k r.length) (c := List.length) k l i x hx
    have hxl := ok_len (ok_mem hl hm)
    have hct := cnS_take (c := List.length) (l := l) (i := i)
    repeat' (first|refine st ?_|refine u0 ?_|refine u1 ?_|refine u2 ?_|refine u3 ?_|refine u4 ?_|refine u5 ?_|refine u6 ?_|(apply i_ca;first|(apply i_f 48;refine c0 (held_IntS x.length (k + (cnS List.length (l.take i) : Nat)) (by omega) (by omega)) ?_))|(refine Br.mk ?_ ?_<;>intro hc)|(refine An.mk ?_;intro x hx))
    exact ei_n (k + (cnS List.length (l.take i) : Nat) + (x.length : Nat)) rfl (by rw [cnS_succ hx]; push_cast; omega) nm
  · rintro g hF rfl
    repeat' (first|refine st ?_|refine u0 ?_|refine u1 ?_|refine u2 ?_|refine u3 ?_|refine u4 ?_|refine u5 ?_|refine u6 ?_|(refine Br.mk ?_ ?_<;>intro hc)|(refine An.mk ?_;intro x hx))
    rw [cnS_all]
theorem markN_IntSS (k : Int) : CALLB Γ T 52 [.io, .ro] [.e0, .i k] = some (.i k, [.e0]) := by
  refine call_io rfl rfl rfl rfl tkLA ?_
  refine st ?_
  refine wp_while (fun (_ : Unit) => ⟨envA [(0, .e0), (1, .i k), (5, .i 0)], heapA [], 0, false⟩) (fun (_ : Unit) => True) (fun (_ : Unit) => 0) (()) nm ?_ ?_
  · trivial
  · intro _ _
    repeat' (first|refine st ?_|refine u0 ?_|refine u1 ?_|refine u2 ?_|refine u3 ?_|refine u4 ?_|refine u5 ?_|refine u6 ?_|(refine Br.mk ?_ ?_<;>intro hc)|(refine An.mk ?_;intro x hx))
    all_goals first | (exfalso; simp at hc; done) | skip
    exact io_r (fioN rfl rfl (gv_e0 ⟨trivial⟩))
/-- The rows that are stuck. -/
def stuckL (l : List (List Int)) (n : Int) : List Int := if areRows l n = true ∧ (runA l n).2.1 ≠ [] then (runA l n).2.2 else []
theorem k_StuckRows (l : List (List Int)) (n : Int) (hl : Bnd.ok l) : CALLB Γ T 44 [] [eL eR l, .i n] = some (if stuckL l n = [] then .e0 else oI (stuckL l n), []) := by
  apply call_ro' rfl rfl rfl rfl
  by_cases ha : areRows l n = true
  · have hi := areRows_ind ha
    have hd := k_demote l n hi
    by_cases h0 : (runA l n).2.1 = []
    · have hs : stuckL l n = [] := by simp [stuckL, h0]
      rw [show runL l (rng n.toNat) (rng l.length) [] = runA l n from rfl, if_pos h0] at hd
      rw [hs, if_pos rfl]
      repeat' (first|refine st ?_|refine u0 ?_|refine u1 ?_|refine u2 ?_|refine u3 ?_|refine u4 ?_|refine u5 ?_|refine u6 ?_|(apply i_ca;first|(apply i_f 64;refine c0 (k_AreRows _ _ hl) ?_)|(apply i_f 83;refine c0 (hd) ?_))|(refine Br.mk ?_ ?_<;>intro hc)|(refine An.mk ?_;intro x hx))
      all_goals first | exact absurd (ha.symm.trans hc) (by decide) | trivial
    · have hr0 : (runA l n).2.2 ≠ [] := run_rows l _ _ _ _ h0 (Nat.le_refl _)
      have hs : stuckL l n = (runA l n).2.2 := by rw [stuckL, if_pos ⟨ha, h0⟩]
      rw [show runL l (rng n.toNat) (rng l.length) [] = runA l n from rfl, if_neg h0] at hd
      rw [hs, if_neg hr0]
      repeat' (first|refine st ?_|refine u0 ?_|refine u1 ?_|refine u2 ?_|refine u3 ?_|refine u4 ?_|refine u5 ?_|refine u6 ?_|(apply i_ca;first|(apply i_f 64;refine c0 (k_AreRows _ _ hl) ?_)|(apply i_f 83;refine c0 (hd) ?_))|(refine Br.mk ?_ ?_<;>intro hc)|(refine An.mk ?_;intro x hx))
      all_goals first | exact absurd (ha.symm.trans hc) (by decide) | rfl
  · have hs : stuckL l n = [] := by rw [stuckL, if_neg (fun h => ha h.1)]
    rw [hs, if_pos rfl]
    repeat' (first|refine st ?_|refine u0 ?_|refine u1 ?_|refine u2 ?_|refine u3 ?_|refine u4 ?_|refine u5 ?_|refine u6 ?_|(apply i_ca;first|(apply i_f 64;refine c0 (k_AreRows _ _ hl) ?_))|(refine Br.mk ?_ ?_<;>intro hc)|(refine An.mk ?_;intro x hx))
    all_goals first | exact absurd hc ha | trivial
theorem k_sStuckRows (l : List (List Int)) (n : Int) (hl : Bnd.ok l) : CALLB Γ T 43 [] [eL eR l, .i n] = some (oI (stuckL l n), []) := by
  apply call_ro' rfl rfl rfl rfl
  by_cases ha : areRows l n = true
  · have hi := areRows_ind ha
    have hd := k_l15Run l n hi
    rw [show runL l (rng n.toNat) (rng l.length) [] = runA l n from rfl] at hd
    by_cases h0 : (runA l n).2.1 = []
    · have hs : stuckL l n = [] := by simp [stuckL, h0]
      rw [hs]
      repeat' (first|refine st ?_|refine u0 ?_|refine u1 ?_|refine u2 ?_|refine u3 ?_|refine u4 ?_|refine u5 ?_|refine u6 ?_|(apply i_ca;first|(apply i_f 21;refine c0 (k_sAreRows _ _ hl) ?_)|refine c0 (hd) ?_)|(refine Br.mk ?_ ?_<;>intro hc)|(refine An.mk ?_;intro x hx))
      all_goals first | exact absurd (ha.symm.trans hc) (by decide) | exact fin (P := ([] : List Int) = []) rfl (g := fun p => gv_hs (l' := []) (f := V.i) p rfl rfl (fun _ => okA)) | (simp [h0] at hc; done)
    · have hs : stuckL l n = (runA l n).2.2 := by rw [stuckL, if_pos ⟨ha, h0⟩]
      rw [hs]
      repeat' (first|refine st ?_|refine u0 ?_|refine u1 ?_|refine u2 ?_|refine u3 ?_|refine u4 ?_|refine u5 ?_|refine u6 ?_|(apply i_ca;first|(apply i_f 21;refine c0 (k_sAreRows _ _ hl) ?_)|refine c0 (hd) ?_)|(refine Br.mk ?_ ?_<;>intro hc)|(refine An.mk ?_;intro x hx))
      all_goals first | exact absurd (ha.symm.trans hc) (by decide) | rfl | (exact absurd (List.length_eq_zero_iff.1 (by simp at hc; omega)) h0) | (simp [h0] at hc; done)
  · have hs : stuckL l n = [] := by rw [stuckL, if_neg (fun h => ha h.1)]
    rw [hs]
    repeat' (first|refine st ?_|refine u0 ?_|refine u1 ?_|refine u2 ?_|refine u3 ?_|refine u4 ?_|refine u5 ?_|refine u6 ?_|(apply i_ca;first|(apply i_f 21;refine c0 (k_sAreRows _ _ hl) ?_))|(refine Br.mk ?_ ?_<;>intro hc)|(refine An.mk ?_;intro x hx))
    all_goals first | exact absurd hc ha | exact fin (P := ([] : List Int) = []) rfl (g := fun p => gv_hs (l' := []) (f := V.i) p rfl rfl (fun _ => okA))
theorem canD_len {l : List (List Int)} {rows left : List Int} : (canD l rows left).length ≤ left.length := List.length_filter_le _ _
theorem runD_size (l : List (List Int)) : ∀ (n : Nat) (left rows : List Int) (st : List (List Int)) (B : Nat), left.length ≤ B → (runD l n left rows st).2.2.length ≤ rows.length ∧ (runD l n left rows st).2.1.length ≤ left.length ∧ (runD l n left rows st).1.length ≤ st.length + left.length ∧ ∀ s ∈ (runD l n left rows st).1, s ∈ st ∨ s.length ≤ B
  | 0, left, rows, st, B, hB => ⟨Nat.le_refl _, Nat.le_refl _, by simp [runD], fun s hs => .inl hs⟩
  | n + 1, left, rows, st, B, hB => by
    simp only [runD]
    split
    · exact ⟨Nat.le_refl _, Nat.le_refl _, by simp, fun s hs => .inl hs⟩
    · split
      · exact ⟨Nat.le_refl _, Nat.le_refl _, by simp, fun s hs => .inl hs⟩
      · rename_i hc
        have h1 := restD_lt hc
        obtain ⟨g1, g2, g3, g4⟩ := runD_size l n (restD (canD l rows left) left) (keepD l (canD l rows left) rows) (st ++ [canD l rows left]) B (by omega)
        refine ⟨Nat.le_trans g1 (List.length_filter_le _ _), by omega, by simp at g3; omega, fun s hs => ?_⟩
        rcases g4 s hs with h | h
        · rcases List.mem_append.1 h with h | h
          · exact .inl h
          · right
            rw [List.mem_singleton.1 h]
            have := canD_len (l := l) (rows := rows) (left := left)
            omega
        · exact .inr h
theorem areRows_n {l : List (List Int)} {n : Int} (h : areRows l n = true) : 1 ≤ n ∧ n ≤ 5 ∧ l.length ≤ 20 := by
  simp only [areRows, Bool.and_eq_true, decide_eq_true_eq] at h
  omega
theorem runA_size {l : List (List Int)} {n : Int} (h : areRows l n = true) : (runA l n).2.2.length ≤ 20 ∧ (runA l n).2.1.length ≤ 5 ∧ (runA l n).1.length ≤ 5 ∧ ∀ s ∈ (runA l n).1, s.length ≤ 5 := by
  obtain ⟨h1, h2, h3⟩ := areRows_n h
  have h4 : (rng n.toNat).length ≤ 5 := by rw [rng_len]; omega
  obtain ⟨g1, g2, g3, g4⟩ := runD_size l (rng n.toNat).length (rng n.toNat) (rng l.length) [] 5 h4
  have g5 := rng_len l.length
  exact ⟨by unfold runA runL; omega, by unfold runA runL; omega, by unfold runA runL; simp at g3; omega, fun s hs => by rcases g4 s hs with h | h; · simp at h
                                                                                                                        · exact h⟩
theorem stuckL_ok (l : List (List Int)) (n : Int) : (stuckL l n).length ≤ 20 := by
  unfold stuckL
  split
  · rename_i h; exact (runA_size h.1).1
  · simp
theorem law_FnExactStrataOf (l : List (List Int)) (n : Int) (hl : Bnd.wf l) (_hn : Bnd.wf n) : CALLB Γ T 7 [] [eL eR l, .i n] = some (.b true, []) := by
  obtain ⟨t0, hk0, m0, rfl, h0⟩ := sz_RowS l 1048576 (by omega) (by omega) hl
  apply call_ro' rfl rfl rfl rfl
  (try refine st ?_)
  refine c0 (hk0) ?_
  repeat' (first|refine st ?_|refine u0 ?_|refine u1 ?_|refine u2 ?_|refine u3 ?_|refine u4 ?_|refine u5 ?_|refine u6 ?_|(refine Br.mk ?_ ?_<;>intro hc)|(refine An.mk ?_;intro x hx))
  · rfl
  have h := (h0.resolve_left (by omega)).1
  have hk1 := k_sStrataOf l n h
  have hk2 := k_StrataOf l n h
  by_cases hs : isCons l n = true
  · rw [hs, if_pos rfl] at hk1 hk2
    have hb : Bnd.ok (runA l n).1 := by
      have ha : areRows l n = true := by unfold isCons at hs; simp only [Bool.and_eq_true] at hs; exact hs.1
      obtain ⟨_, _, h3, h4⟩ := runA_size ha
      exact ⟨by omega, fun s hs => ok_ints (by have := h4 s hs; omega)⟩
    generalize (runA l n).1 = s at *
    have hQ_l := cn_RowS h
    have hQ_s := cn_IntSS hb
    have hM_s : s.length = (mkIntSS (1) s).length := (mkS_len _ _).symm
    repeat' (first|refine st ?_|refine u0 ?_|refine u1 ?_|refine u2 ?_|refine u3 ?_|refine u4 ?_|refine u5 ?_|refine u6 ?_|(apply i_ca;first|(apply i_f 49;refine c0 (hk1) ?_)|(apply i_f 50;refine c0 (hk2) ?_)|(apply i_f 33;refine c0 (to_RowS l h) ?_)|(apply i_f 34;refine c0 (eq_RowS l l h) ?_)|(apply i_f 46;refine ci (mark_RowS l (1) h (by omega)) ?_ ?_)|(apply i_f 51;refine c0 (eq_IntSS s s hb) ?_)|(apply i_f 52;refine ci (mark_IntSS s (1) hb (by omega)) ?_ ?_)|(apply i_f 53;refine c0 (held_IntSS s (1) hb (by omega)) ?_))|(refine Br.mk ?_ ?_<;>intro hc)|(refine An.mk ?_;intro x hx))
    all_goals first | rfl | exact mkS_len _ _ | exact mk_len _ _ | exact absurd rfl hc | exact absurd hc (by decide)
  · rw [if_neg hs] at hk1 hk2
    have hs' : isCons l n = false := by simpa using hs
    rw [hs'] at hk1 hk2
    have hQ_l := cn_RowS h
    have heN0 := eq_IntSS [] [] ok_nilL
    have hhN0 := held_IntSS [] (1) ok_nilL (by omega)
    repeat' (first|refine st ?_|refine u0 ?_|refine u1 ?_|refine u2 ?_|refine u3 ?_|refine u4 ?_|refine u5 ?_|refine u6 ?_|(apply i_ca;first|(apply i_f 49;refine c0 (hk1) ?_)|(apply i_f 50;refine c0 (hk2) ?_)|(apply i_f 33;refine c0 (to_RowS l h) ?_)|(apply i_f 34;refine c0 (eq_RowS l l h) ?_)|(apply i_f 46;refine ci (mark_RowS l (1) h (by omega)) ?_ ?_)|(apply i_f 51;refine c0 (heN0) ?_)|(apply i_f 53;refine c0 (hhN0) ?_)|(apply i_f 52;refine ci0 (markN_IntSS (1)) ?_))|(refine Br.mk ?_ ?_<;>intro hc)|(refine An.mk ?_;intro x hx))
    all_goals first | rfl | exact mkS_len _ _ | exact mk_len _ _ | exact absurd rfl hc | exact absurd hc (by decide)
open Go.Proofs
theorem tb7 : Am.tab Try.prog mdT 7 = some c7.er ∧ c7.body.sok = true := ⟨tab_of Try.func7 (by kernel_rfl), by kernel_rfl⟩
theorem tb21 : Am.tab Try.prog mdT 21 = some c21.er ∧ c21.body.sok = true := ⟨tab_of Try.func21 (by kernel_rfl), by kernel_rfl⟩
theorem tb32 : Am.tab Try.prog mdT 32 = some c32.er ∧ c32.body.sok = true := ⟨tab_of Try.func32 (by kernel_rfl), by kernel_rfl⟩
theorem tb33 : Am.tab Try.prog mdT 33 = some c33.er ∧ c33.body.sok = true := ⟨tab_of Try.func33 (by kernel_rfl), by kernel_rfl⟩
theorem tb34 : Am.tab Try.prog mdT 34 = some c34.er ∧ c34.body.sok = true := ⟨tab_of Try.func34 (by kernel_rfl), by kernel_rfl⟩
theorem tb43 : Am.tab Try.prog mdT 43 = some c43.er ∧ c43.body.sok = true := ⟨tab_of Try.func43 (by kernel_rfl), by kernel_rfl⟩
theorem tb44 : Am.tab Try.prog mdT 44 = some c44.er ∧ c44.body.sok = true := ⟨tab_of Try.func44 (by kernel_rfl), by kernel_rfl⟩
theorem tb45 : Am.tab Try.prog mdT 45 = some c45.er ∧ c45.body.sok = true := ⟨tab_of Try.func45 (by kernel_rfl), by kernel_rfl⟩
theorem tb46 : Am.tab Try.prog mdT 46 = some c46.er ∧ c46.body.sok = true := ⟨tab_of Try.func46 (by kernel_rfl), by kernel_rfl⟩
theorem tb47 : Am.tab Try.prog mdT 47 = some c47.er ∧ c47.body.sok = true := ⟨tab_of Try.func47 (by kernel_rfl), by kernel_rfl⟩
theorem tb48 : Am.tab Try.prog mdT 48 = some c48.er ∧ c48.body.sok = true := ⟨tab_of Try.func48 (by kernel_rfl), by kernel_rfl⟩
theorem tb49 : Am.tab Try.prog mdT 49 = some c49.er ∧ c49.body.sok = true := ⟨tab_of Try.func49 (by kernel_rfl), by kernel_rfl⟩
theorem tb50 : Am.tab Try.prog mdT 50 = some c50.er ∧ c50.body.sok = true := ⟨tab_of Try.func50 (by kernel_rfl), by kernel_rfl⟩
theorem tb51 : Am.tab Try.prog mdT 51 = some c51.er ∧ c51.body.sok = true := ⟨tab_of Try.func51 (by kernel_rfl), by kernel_rfl⟩
theorem tb52 : Am.tab Try.prog mdT 52 = some c52.er ∧ c52.body.sok = true := ⟨tab_of Try.func52 (by kernel_rfl), by kernel_rfl⟩
theorem tb53 : Am.tab Try.prog mdT 53 = some c53.er ∧ c53.body.sok = true := ⟨tab_of Try.func53 (by kernel_rfl), by kernel_rfl⟩
theorem tb54 : Am.tab Try.prog mdT 54 = some c54.er ∧ c54.body.sok = true := ⟨tab_of Try.func54 (by kernel_rfl), by kernel_rfl⟩
theorem tb55 : Am.tab Try.prog mdT 55 = some c55.er ∧ c55.body.sok = true := ⟨tab_of Try.func55 (by kernel_rfl), by kernel_rfl⟩
theorem tb64 : Am.tab Try.prog mdT 64 = some c64.er ∧ c64.body.sok = true := ⟨tab_of Try.func64 (by kernel_rfl), by kernel_rfl⟩
theorem tb70 : Am.tab Try.prog mdT 70 = some c70.er ∧ c70.body.sok = true := ⟨tab_of Try.func70 (by kernel_rfl), by kernel_rfl⟩
theorem tb71 : Am.tab Try.prog mdT 71 = some c71.er ∧ c71.body.sok = true := ⟨tab_of Try.func71 (by kernel_rfl), by kernel_rfl⟩
theorem tb73 : Am.tab Try.prog mdT 73 = some c73.er ∧ c73.body.sok = true := ⟨tab_of Try.func73 (by kernel_rfl), by kernel_rfl⟩
theorem tb77 : Am.tab Try.prog mdT 77 = some c77.er ∧ c77.body.sok = true := ⟨tab_of Try.func77 (by kernel_rfl), by kernel_rfl⟩
theorem tb78 : Am.tab Try.prog mdT 78 = some c78.er ∧ c78.body.sok = true := ⟨tab_of Try.func78 (by kernel_rfl), by kernel_rfl⟩
theorem tb82 : Am.tab Try.prog mdT 82 = some c82.er ∧ c82.body.sok = true := ⟨tab_of Try.func82 (by kernel_rfl), by kernel_rfl⟩
theorem tb83 : Am.tab Try.prog mdT 83 = some c83.er ∧ c83.body.sok = true := ⟨tab_of Try.func83 (by kernel_rfl), by kernel_rfl⟩
theorem tb84 : Am.tab Try.prog mdT 84 = some c84.er ∧ c84.body.sok = true := ⟨tab_of Try.func84 (by kernel_rfl), by kernel_rfl⟩
theorem tb85 : Am.tab Try.prog mdT 85 = some c85.er ∧ c85.body.sok = true := ⟨tab_of Try.func85 (by kernel_rfl), by kernel_rfl⟩
theorem tb90 : Am.tab Try.prog mdT 90 = some c90.er ∧ c90.body.sok = true := ⟨tab_of Try.func90 (by kernel_rfl), by kernel_rfl⟩
theorem tb91 : Am.tab Try.prog mdT 91 = some c91.er ∧ c91.body.sok = true := ⟨tab_of Try.func91 (by kernel_rfl), by kernel_rfl⟩
theorem tb94 : Am.tab Try.prog mdT 94 = some c94.er ∧ c94.body.sok = true := ⟨tab_of Try.func94 (by kernel_rfl), by kernel_rfl⟩
theorem tb99 : Am.tab Try.prog mdT 99 = some c99.er ∧ c99.body.sok = true := ⟨tab_of Try.func99 (by kernel_rfl), by kernel_rfl⟩
theorem tb100 : Am.tab Try.prog mdT 100 = some c100.er ∧ c100.body.sok = true := ⟨tab_of Try.func100 (by kernel_rfl), by kernel_rfl⟩
theorem tb101 : Am.tab Try.prog mdT 101 = some c101.er ∧ c101.body.sok = true := ⟨tab_of Try.func101 (by kernel_rfl), by kernel_rfl⟩
theorem tb102 : Am.tab Try.prog mdT 102 = some c102.er ∧ c102.body.sok = true := ⟨tab_of Try.func102 (by kernel_rfl), by kernel_rfl⟩
theorem tb103 : Am.tab Try.prog mdT 103 = some c103.er ∧ c103.body.sok = true := ⟨tab_of Try.func103 (by kernel_rfl), by kernel_rfl⟩
theorem tb104 : Am.tab Try.prog mdT 104 = some c104.er ∧ c104.body.sok = true := ⟨tab_of Try.func104 (by kernel_rfl), by kernel_rfl⟩
theorem tb105 : Am.tab Try.prog mdT 105 = some c105.er ∧ c105.body.sok = true := ⟨tab_of Try.func105 (by kernel_rfl), by kernel_rfl⟩
theorem tb106 : Am.tab Try.prog mdT 106 = some c106.er ∧ c106.body.sok = true := ⟨tab_of Try.func106 (by kernel_rfl), by kernel_rfl⟩
theorem tb107 : Am.tab Try.prog mdT 107 = some c107.er ∧ c107.body.sok = true := ⟨tab_of Try.func107 (by kernel_rfl), by kernel_rfl⟩
theorem tb117 : Am.tab Try.prog mdT 117 = some c117.er ∧ c117.body.sok = true := ⟨tab_of Try.func117 (by kernel_rfl), by kernel_rfl⟩
theorem tb118 : Am.tab Try.prog mdT 118 = some c118.er ∧ c118.body.sok = true := ⟨tab_of Try.func118 (by kernel_rfl), by kernel_rfl⟩
theorem allT : AllT Try.prog mdT TL := ⟨tb7, tb21, tb32, tb33, tb34, tb43, tb44, tb45, tb46, tb47, tb48, tb49, tb50, tb51, tb52, tb53, tb54, tb55, tb64, tb70, tb71, tb73, tb77, tb78, tb82, tb83, tb84, tb85, tb90, tb91, tb94, tb99, tb100, tb101, tb102, tb103, tb104, tb105, tb106, tb107, tb117, tb118, trivial⟩
theorem mixed : Try.prog.follows .mixedOrders = true := by kernel_rfl
theorem envOK : EnvOK Try.prog Γ := envOK_of allT (fun f p ms args r us h => by cases h) mixed
theorem envB : EnvB Γ T := envB_of allT fun f p args r us h => by cases h
theorem own : ownKnob Try.prog.godebug = none := by kernel_rfl
theorem kids : Kids Try.prog (· < Try.prog.types.size) := kids_rows (by kernel_rfl) (by kernel_rfl)
theorem full : ∀ t e, t < Try.prog.types.size → Try.prog.underlying t = some (.slice e) → 0 < Try.prog.cellsOf e := slices_full_of _ (by kernel_rfl)
theorem ok3 : okT Try.prog 8 3 = true := by kernel_rfl
theorem lt3 : 3 < Try.prog.types.size := of_decide_eq_true (by kernel_rfl)
theorem ok39 : okT Try.prog 8 39 = true := by kernel_rfl
theorem lt39 : 39 < Try.prog.types.size := of_decide_eq_true (by kernel_rfl)
set_option maxRecDepth 1000000 in
theorem iso (vs : List V) (h : TYs Try.prog 8 [39, 3] vs) : IsoOK Try.prog 7 [] vs (.b true) [] := by
  obtain ⟨v0, w0, rfl, h0, v1, w1, rfl, h1, rfl⟩ := h
  obtain ⟨a0, rfl, k0⟩ := (show Dec Try.prog 8 39 _ from dec_L Try.underlying39 (dec_1 Try.underlying81 rfl (dec_L Try.underlying27 (dec_i Try.underlying3)))) _ h0
  obtain ⟨a1, rfl, k1⟩ := (show Dec Try.prog 8 3 _ from dec_i Try.underlying3) _ h1
  exact CALLB_ok envOK envB rfl (by simp only [PurL]; exact ⟨Ror.pur _ h0.ror, Ror.pur _ h1.ror, trivial⟩) (law_FnExactStrataOf a0 a1 k0 k1)
open Go.Proofs.Ythpaolkonlhjfaa in
set_option maxRecDepth 100000 in
theorem lifted (os : Os) (started : os.Started) (H : Type) (enc : TypeId × Value → H) :
    ReturnsInHanded {} Try.checked os 7 .any (Rows.fnExactStrataOfSpec.pre6 enc Try.prog Try.f7 Rows.fnExactStrataOfRow.domain false) (Rows.fnExactStrataOfSpec.post enc Try.prog Try.f7 false true false false) := by
  refine returnsInHanded_of_change (C := Try.checked) own started (by kernel_rfl) Try.func7
    (ChangeSpec.witness6 (enc := enc) (C := Try.checked) false ⟨#[], #[.slice none 0 0, .int .i64 0], []⟩ 8 (by kernel_rfl) (by kernel_rfl) (by kernel_rfl) (by kernel_rfl)) ?_
  intro W base args ds gs before hval hW hcnd _
  exact law_post (d := 8) (tb := 4) kids full hval hW rfl (fun ds hd => by
    match ds, hd with
    | [d0, d1], _ => rfl) rfl Try.underlying4 (by
      intro t ht
      have : t = 39 ∨ t = 3 := by simpa [Try.f7] using ht
      rcases this with rfl | rfl
      · exact ⟨ok39, lt39⟩
      · exact ⟨ok3, lt3⟩) iso
end Go.Am
namespace Go.Proofs.Ythpaolkonlhjfaa
open Go.Am in
theorem fnExactStrataOf_holds : Rows.FnExactStrataOfSaid :=
  OpenClaim.holds_of_wide 7 Try.f7 rfl rfl rfl rfl rfl rfl rfl ⟨rfl, rfl, rfl, rfl, rfl⟩ rfl rfl rfl rfl rfl (by kernel_rfl) Try.func7 (by kernel_rfl)
    (of_decide_eq_true (by kernel_rfl)) (by unfold Func.isWrapper; first | (rw [if_pos (by decide +kernel)]; kernel_rfl) | (rw [if_neg (by decide +kernel)]; exact ⟨rfl, rfl⟩))
    (fun os started H enc _ => Go.Am.lifted os started H enc)
#print axioms fnExactStrataOf_holds
end Go.Proofs.Ythpaolkonlhjfaa
