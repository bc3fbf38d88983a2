/-
  Contracts of functions that the law reaches.
-/
import Derived.Test.YtocgmaekciphcaaFnExactOrderOfC
set_option linter.all false
set_option maxHeartbeats 1000000
set_option synthInstance.maxSize 1000
namespace Go.Am
attribute [local irreducible] snapB roT giveB okD free packB
abbrev eIntSS (x : List (List Int)) : V := eL eI x
abbrev oIntSS (x : List (List Int)) : V := oL 1 oI x
abbrev eBoolSS (x : List (List Bool)) : V := eL eB x
abbrev oBoolSS (x : List (List Bool)) : V := oL 1 oB x
abbrev eOrder (x : Int × (List (List Bool))) : V := .st [.i (x.1), eL eB (x.2)]
abbrev oOrder (x : Int × (List (List Bool))) : V := .st [.i (x.1), oL 1 oB (x.2)]
theorem sz_IntS (l : List Int) (n : Int) (h0 : 0 ≤ n) (h1 : n ≤ 1048576) (hl : Bnd.wf l) : ∃ t, CALLB Γ T 65 [] [eI l, .i n] = some (t, []) ∧ SzP l n t := by
  have hle := wf_len hl
  apply call_ex rfl rfl rfl rfl
  repeat' (first|refine st ?_|refine u0 ?_|refine u1 ?_|refine u2 ?_|refine u3 ?_|refine u4 ?_|refine u5 ?_|refine u6 ?_|refine u7 ?_|refine u8 ?_|refine u9 ?_|(refine Br.mk ?_ ?_<;>intro hc)|(refine An.mk ?_;intro x hx))
  · exact sz_neg
  · exact sz_ok ⟨by omega, fun _ _ => trivial⟩
theorem sz_IntSS (l : List (List Int)) (n : Int) (h0 : 0 ≤ n) (h1 : n ≤ 1048576) (hl : Bnd.wf l) : ∃ t, CALLB Γ T 35 [] [eIntSS l, .i n] = some (t, []) ∧ SzP l n t := by
  have hle := wf_len hl
  apply call_ex rfl rfl rfl rfl
  repeat' (first|refine st ?_|refine u0 ?_|refine u1 ?_|refine u2 ?_|refine u3 ?_|refine u4 ?_|refine u5 ?_|refine u6 ?_|refine u7 ?_|refine u8 ?_|refine u9 ?_|(refine Br.mk ?_ ?_<;>intro hc)|(refine An.mk ?_;intro x hx))
  · exact sz_neg
  refine wp_eachI (l) (fun _ _ => ()) (fun i (g : Int) => ⟨envA [(0, eIntSS l), (1, .i g), (5, .i (i : Nat))], heapA [], 0, false⟩) (n - l.length) (()) (fun i (g : Int) => 0 ≤ g ∧ g ≤ n ∧ l.length ≤ 1048576 ∧ ∀ x ∈ l.take i, Bnd.ok x) nm ?_ ?_ ?_ ?_
  · rfl
  · exact ⟨by omega, by omega, by omega, take_nil⟩
  · intro i g x hi hx hm _ hI
    obtain ⟨t, hk, m, rfl, hm'⟩ := sz_IntS x g (by omega) (by omega) (wf_mem hl hm)
    repeat' (first|refine st ?_|refine u0 ?_|refine u1 ?_|refine u2 ?_|refine u3 ?_|refine u4 ?_|refine u5 ?_|refine u6 ?_|refine u7 ?_|refine u8 ?_|refine u9 ?_|(apply i_ca;first|refine c0 (hk) ?_)|(refine Br.mk ?_ ?_<;>intro hc)|(refine An.mk ?_;intro x hx))
    · exact sz_neg
    · have hm2 := hm'.resolve_left (by omega)
      exact ei_n m rfl ⟨hm2.2.1, by omega, hI.2.2.1, take_all hI.2.2.2 hx hm2.1⟩ nm
  · intro g _ hI
    repeat' (first|refine st ?_|refine u0 ?_|refine u1 ?_|refine u2 ?_|refine u3 ?_|refine u4 ?_|refine u5 ?_|refine u6 ?_|refine u7 ?_|refine u8 ?_|refine u9 ?_|(refine Br.mk ?_ ?_<;>intro hc)|(refine An.mk ?_;intro x hx))
    exact sz_ok ⟨by omega, take_end hI.2.2.2⟩ hI.1 hI.2.1
theorem eq_IntS (a b : List Int) (ha : Bnd.ok a) : CALLB Γ T 61 [] [eI a, eI b] = some (.b (decide (a = b)), []) := by
  have hle := ok_len ha
  apply call_ro' rfl rfl rfl rfl
  repeat' (first|refine st ?_|refine u0 ?_|refine u1 ?_|refine u2 ?_|refine u3 ?_|refine u4 ?_|refine u5 ?_|refine u6 ?_|refine u7 ?_|refine u8 ?_|refine u9 ?_|(refine Br.mk ?_ ?_<;>intro hc)|(refine An.mk ?_;intro x hx))
  · exact (decide_eq_false (by rintro rfl; omega)).symm
  refine wp_eachI (a) (fun _ _ => ()) (fun i (_ : Unit) => ⟨envA [(0, eI a), (1, eI b), (5, .i (i : Nat))], heapA [], 0, false⟩) (()) (()) (fun i (_ : Unit) => a.take i = b.take i) nm ?_ ?_ ?_ ?_
  · rfl
  · rfl
  · intro i g x hi hx hm _ hI
    obtain ⟨y, hy⟩ := cell_of (r := b) (j := i) (by omega)
    repeat' (first|refine st ?_|refine u0 ?_|refine u1 ?_|refine u2 ?_|refine u3 ?_|refine u4 ?_|refine u5 ?_|refine u6 ?_|refine u7 ?_|refine u8 ?_|refine u9 ?_|(refine Br.mk ?_ ?_<;>intro hc)|(refine An.mk ?_;intro x hx))
    · exact (decide_eq_false (ne_of_at hx hy (by assumption))).symm
    · exact ei_n () rfl (take_eq hI hx hy (by assumption)) nm
  · intro g _ hI
    repeat' (first|refine st ?_|refine u0 ?_|refine u1 ?_|refine u2 ?_|refine u3 ?_|refine u4 ?_|refine u5 ?_|refine u6 ?_|refine u7 ?_|refine u8 ?_|refine u9 ?_|(refine Br.mk ?_ ?_<;>intro hc)|(refine An.mk ?_;intro x hx))
    exact (decide_eq_true (eq_of_take hI (by omega))).symm
theorem eq_BoolS (a b : List Bool) (ha : Bnd.ok a) : CALLB Γ T 71 [] [eB a, eB b] = some (.b (decide (a = b)), []) := by
  have hle := ok_len ha
  apply call_ro' rfl rfl rfl rfl
  repeat' (first|refine st ?_|refine u0 ?_|refine u1 ?_|refine u2 ?_|refine u3 ?_|refine u4 ?_|refine u5 ?_|refine u6 ?_|refine u7 ?_|refine u8 ?_|refine u9 ?_|(refine Br.mk ?_ ?_<;>intro hc)|(refine An.mk ?_;intro x hx))
  · exact (decide_eq_false (by rintro rfl; omega)).symm
  refine wp_eachI (a) (fun _ _ => ()) (fun i (_ : Unit) => ⟨envA [(0, eB a), (1, eB b), (5, .i (i : Nat))], heapA [], 0, false⟩) (()) (()) (fun i (_ : Unit) => a.take i = b.take i) nm ?_ ?_ ?_ ?_
  · rfl
  · rfl
  · intro i g x hi hx hm _ hI
    obtain ⟨y, hy⟩ := cell_of (r := b) (j := i) (by omega)
    repeat' (first|refine st ?_|refine u0 ?_|refine u1 ?_|refine u2 ?_|refine u3 ?_|refine u4 ?_|refine u5 ?_|refine u6 ?_|refine u7 ?_|refine u8 ?_|refine u9 ?_|(refine Br.mk ?_ ?_<;>intro hc)|(refine An.mk ?_;intro x hx))
    · exact (decide_eq_false (ne_of_at hx hy (by assumption))).symm
    · exact ei_n () rfl (take_eq hI hx hy (by assumption)) nm
  · intro g _ hI
    repeat' (first|refine st ?_|refine u0 ?_|refine u1 ?_|refine u2 ?_|refine u3 ?_|refine u4 ?_|refine u5 ?_|refine u6 ?_|refine u7 ?_|refine u8 ?_|refine u9 ?_|(refine Br.mk ?_ ?_<;>intro hc)|(refine An.mk ?_;intro x hx))
    exact (decide_eq_true (eq_of_take hI (by omega))).symm
theorem eq_IntSS (a b : List (List Int)) (ha : Bnd.ok a) : CALLB Γ T 31 [] [eIntSS a, eIntSS b] = some (.b (decide (a = b)), []) := by
  have hle := ok_len ha
  apply call_ro' rfl rfl rfl rfl
  repeat' (first|refine st ?_|refine u0 ?_|refine u1 ?_|refine u2 ?_|refine u3 ?_|refine u4 ?_|refine u5 ?_|refine u6 ?_|refine u7 ?_|refine u8 ?_|refine u9 ?_|(refine Br.mk ?_ ?_<;>intro hc)|(refine An.mk ?_;intro x hx))
  · exact (decide_eq_false (by rintro rfl; omega)).symm
  refine wp_eachI (a) (fun _ _ => ()) (fun i (_ : Unit) => ⟨envA [(0, eIntSS a), (1, eIntSS b), (5, .i (i : Nat))], heapA [], 0, false⟩) (()) (()) (fun i (_ : Unit) => a.take i = b.take i) nm ?_ ?_ ?_ ?_
  · rfl
  · rfl
  · intro i g x hi hx hm _ hI
    obtain ⟨y, hy⟩ := cell_of (r := b) (j := i) (by omega)
    repeat' (first|refine st ?_|refine u0 ?_|refine u1 ?_|refine u2 ?_|refine u3 ?_|refine u4 ?_|refine u5 ?_|refine u6 ?_|refine u7 ?_|refine u8 ?_|refine u9 ?_|(apply i_ca;first|(apply i_f 61;refine c0 (eq_IntS x y (ok_mem ha hm)) ?_))|(refine Br.mk ?_ ?_<;>intro hc)|(refine An.mk ?_;intro x hx))
    · exact (decide_eq_false (ne_of_at hx hy (by assumption))).symm
    · exact ei_n () rfl (take_eq hI hx hy (by assumption)) nm
  · intro g _ hI
    repeat' (first|refine st ?_|refine u0 ?_|refine u1 ?_|refine u2 ?_|refine u3 ?_|refine u4 ?_|refine u5 ?_|refine u6 ?_|refine u7 ?_|refine u8 ?_|refine u9 ?_|(refine Br.mk ?_ ?_<;>intro hc)|(refine An.mk ?_;intro x hx))
    exact (decide_eq_true (eq_of_take hI (by omega))).symm
theorem eq_BoolSS (a b : List (List Bool)) (ha : Bnd.ok a) : CALLB Γ T 45 [] [eBoolSS a, eBoolSS b] = some (.b (decide (a = b)), []) := by
  have hle := ok_len ha
  apply call_ro' rfl rfl rfl rfl
  repeat' (first|refine st ?_|refine u0 ?_|refine u1 ?_|refine u2 ?_|refine u3 ?_|refine u4 ?_|refine u5 ?_|refine u6 ?_|refine u7 ?_|refine u8 ?_|refine u9 ?_|(refine Br.mk ?_ ?_<;>intro hc)|(refine An.mk ?_;intro x hx))
  · exact (decide_eq_false (by rintro rfl; omega)).symm
  refine wp_eachI (a) (fun _ _ => ()) (fun i (_ : Unit) => ⟨envA [(0, eBoolSS a), (1, eBoolSS b), (5, .i (i : Nat))], heapA [], 0, false⟩) (()) (()) (fun i (_ : Unit) => a.take i = b.take i) nm ?_ ?_ ?_ ?_
  · rfl
  · rfl
  · intro i g x hi hx hm _ hI
    obtain ⟨y, hy⟩ := cell_of (r := b) (j := i) (by omega)
    repeat' (first|refine st ?_|refine u0 ?_|refine u1 ?_|refine u2 ?_|refine u3 ?_|refine u4 ?_|refine u5 ?_|refine u6 ?_|refine u7 ?_|refine u8 ?_|refine u9 ?_|(apply i_ca;first|(apply i_f 71;refine c0 (eq_BoolS x y (ok_mem ha hm)) ?_))|(refine Br.mk ?_ ?_<;>intro hc)|(refine An.mk ?_;intro x hx))
    · exact (decide_eq_false (ne_of_at hx hy (by assumption))).symm
    · exact ei_n () rfl (take_eq hI hx hy (by assumption)) nm
  · intro g _ hI
    repeat' (first|refine st ?_|refine u0 ?_|refine u1 ?_|refine u2 ?_|refine u3 ?_|refine u4 ?_|refine u5 ?_|refine u6 ?_|refine u7 ?_|refine u8 ?_|refine u9 ?_|(refine Br.mk ?_ ?_<;>intro hc)|(refine An.mk ?_;intro x hx))
    exact (decide_eq_true (eq_of_take hI (by omega))).symm
theorem eq_Order (a b : Int × (List (List Bool))) (ha : Bnd.ok a) : CALLB Γ T 13 [] [eOrder a, eOrder b] = some (.b (decide (a = b)), []) := by
  apply call_ro' rfl rfl rfl rfl
  repeat' (first|refine st ?_|refine u0 ?_|refine u1 ?_|refine u2 ?_|refine u3 ?_|refine u4 ?_|refine u5 ?_|refine u6 ?_|refine u7 ?_|refine u8 ?_|refine u9 ?_|(apply i_ca;first|(apply i_f 45;refine c0 (eq_BoolSS _ _ (ha.2)) ?_))|(refine Br.mk ?_ ?_<;>intro hc)|(refine An.mk ?_;intro x hx))
  all_goals obtain ⟨a0, a1⟩ := a; obtain ⟨b0, b1⟩ := b; simp_all [Prod.ext_iff]
theorem to_IntS (l : List Int) (hl : Bnd.ok l) : CALLB Γ T 66 [] [eI l] = some (oI l, []) := by
  have hle := ok_len hl
  apply call_ro' rfl rfl rfl rfl
  repeat' (first|refine st ?_|refine u0 ?_|refine u1 ?_|refine u2 ?_|refine u3 ?_|refine u4 ?_|refine u5 ?_|refine u6 ?_|refine u7 ?_|refine u8 ?_|refine u9 ?_|(refine Br.mk ?_ ?_<;>intro hc)|(refine An.mk ?_;intro x hx))
  refine wp_each (l) (fun _ _ => ()) (fun i (_ : Unit) => ⟨envA [(0, eI l), (3, .hs 0 0 l.length l.length), (4, .i (i : Nat))], heapA [some ⟨1, (l.take i).map V.i ++ List.replicate (l.length - i) (.im (.int .i64 0)), false⟩], 1, false⟩) (()) (()) nm ?_ ?_ ?_
  · rfl
  · intro i g x hi hx hm _
    repeat' (first|refine st ?_|refine u0 ?_|refine u1 ?_|refine u2 ?_|refine u3 ?_|refine u4 ?_|refine u5 ?_|refine u6 ?_|refine u7 ?_|refine u8 ?_|refine u9 ?_|(refine Br.mk ?_ ?_<;>intro hc)|(refine An.mk ?_;intro x hx))
    exact ea_n () rfl nm
  · intro g _
    rw [fill_full]
    repeat' (first|refine st ?_|refine u0 ?_|refine u1 ?_|refine u2 ?_|refine u3 ?_|refine u4 ?_|refine u5 ?_|refine u6 ?_|refine u7 ?_|refine u8 ?_|refine u9 ?_|(refine Br.mk ?_ ?_<;>intro hc)|(refine An.mk ?_;intro x hx))
    rfl
theorem to_IntSS (l : List (List Int)) (hl : Bnd.ok l) : CALLB Γ T 37 [] [eIntSS l] = some (oIntSS l, []) := by
  have hle := ok_len hl
  apply call_ro' rfl rfl rfl rfl
  repeat' (first|refine st ?_|refine u0 ?_|refine u1 ?_|refine u2 ?_|refine u3 ?_|refine u4 ?_|refine u5 ?_|refine u6 ?_|refine u7 ?_|refine u8 ?_|refine u9 ?_|(refine Br.mk ?_ ?_<;>intro hc)|(refine An.mk ?_;intro x hx))
  refine wp_each (l) (fun _ _ => ()) (fun i (_ : Unit) => ⟨envA [(0, eIntSS l), (3, .hs 0 0 l.length l.length), (4, .i (i : Nat))], heapA [some ⟨1, (l.take i).map oI ++ List.replicate (l.length - i) (.e0), false⟩], 1, false⟩) (()) (()) nm ?_ ?_ ?_
  · rfl
  · intro i g x hi hx hm _
    repeat' (first|refine st ?_|refine u0 ?_|refine u1 ?_|refine u2 ?_|refine u3 ?_|refine u4 ?_|refine u5 ?_|refine u6 ?_|refine u7 ?_|refine u8 ?_|refine u9 ?_|(apply i_ca;first|(apply i_f 66;refine c0 (to_IntS x (ok_mem hl hm)) ?_))|(refine Br.mk ?_ ?_<;>intro hc)|(refine An.mk ?_;intro x hx))
    exact ea_n () rfl nm
  · intro g _
    rw [fill_full]
    repeat' (first|refine st ?_|refine u0 ?_|refine u1 ?_|refine u2 ?_|refine u3 ?_|refine u4 ?_|refine u5 ?_|refine u6 ?_|refine u7 ?_|refine u8 ?_|refine u9 ?_|(refine Br.mk ?_ ?_<;>intro hc)|(refine An.mk ?_;intro x hx))
    rfl
theorem k_l1In (x a b : Int) : CALLB Γ T 46 [] [.i x, .i a, .i b] = some (.b (decide (a ≤ x ∧ x ≤ b)), []) := by
  apply call_ro' rfl rfl rfl rfl
  repeat' (first|refine st ?_|refine u0 ?_|refine u1 ?_|refine u2 ?_|refine u3 ?_|refine u4 ?_|refine u5 ?_|refine u6 ?_|refine u7 ?_|refine u8 ?_|refine u9 ?_|(refine Br.mk ?_ ?_<;>intro hc)|(refine An.mk ?_;intro x hx))
  all_goals simp [*]
theorem k_within (x a b : Int) : CALLB Γ T 47 [] [.i x, .i a, .i b] = some (.b (decide (a ≤ x ∧ x ≤ b)), []) := by
  apply call_ro' rfl rfl rfl rfl
  repeat' (first|refine st ?_|refine u0 ?_|refine u1 ?_|refine u2 ?_|refine u3 ?_|refine u4 ?_|refine u5 ?_|refine u6 ?_|refine u7 ?_|refine u8 ?_|refine u9 ?_|(refine Br.mk ?_ ?_<;>intro hc)|(refine An.mk ?_;intro x hx))
  all_goals simp [*]
def at2 (a : List (List Bool)) (i j : Nat) : Bool := (a.getD i []).getD j false
def isOrder (n : Int) (a : List (List Bool)) : Bool :=
  decide (1 ≤ n ∧ n ≤ 5) && (decide ((a.length : Int) = n) && (a.all (fun r => decide ((r.length : Int) = n)) && (List.range a.length).all (fun i => (List.range a.length).all (fun k => (List.range a.length).all (fun m => !(at2 a i k && at2 a k m && !at2 a i m))) && !at2 a i i)))
theorem row_of {α : Type} {a : List (List α)} {n : Int} {i : Nat} (h : ∀ r ∈ a, (r.length : Int) = n) (hi : i < a.length) : ∃ r, a[i]? = some r ∧ r ∈ a ∧ (r.length : Int) = n :=
  ⟨a[i], List.getElem?_eq_getElem hi, List.getElem_mem hi, h _ (List.getElem_mem hi)⟩
abbrev eO (n : Int) (a : List (List Bool)) : V := .st [.i n, eL eB a]
theorem at2_of {a : List (List Bool)} {i j : Nat} {r : List Bool} {b : Bool} (h1 : a[i]? = some r) (h2 : r[j]? = some b) : at2 a i j = b := by simp [at2, List.getD_eq_getElem?_getD, h1, h2]
theorem k_IsOrder (n : Int) (a : List (List Bool)) (ha : Bnd.ok a) : CALLB Γ T 15 [] [eO n a] = some (.b (isOrder n a), []) := by
  have hle := ok_len ha
  apply call_ro' rfl rfl rfl rfl
  generalize hR : isOrder n a = R
  repeat' (first|refine st ?_|refine u0 ?_|refine u1 ?_|refine u2 ?_|refine u3 ?_|refine u4 ?_|refine u5 ?_|refine u6 ?_|refine u7 ?_|refine u8 ?_|refine u9 ?_|(apply i_ca;first|(apply i_f 47;refine c0 (k_within _ _ _) ?_))|(refine Br.mk ?_ ?_<;>intro hc)|(refine An.mk ?_;intro x hx))
  · simp [← hR, isOrder, hc]
  · simp [← hR, isOrder, hc]
  refine wp_eachI (a) (fun r _ => r.all (fun r => decide ((r.length : Int) = n)) && (List.range a.length).all (fun i => (List.range a.length).all (fun k => (List.range a.length).all (fun m => !(at2 a i k && at2 a k m && !at2 a i m))) && !at2 a i i)) (fun i (_ : Unit) => ⟨envA [(1, .hp 0 0), (21, eL eB a), (22, .i a.length), (23, .i (i : Nat))], heapA [some ⟨2, [.st [.i n, eL eB a]], false⟩], 1, false⟩) (()) (R) (fun i (_ : Unit) => ∀ r ∈ a.take i, (r.length : Int) = n) nm ?_ ?_ ?_ ?_
  · rw [← hR]; simp [isOrder, *]
  · exact take_nil
  · intro i g x hi hx hm hF hI
    have hxl := ok_len (ok_mem ha hm)
    repeat' (first|refine st ?_|refine u0 ?_|refine u1 ?_|refine u2 ?_|refine u3 ?_|refine u4 ?_|refine u5 ?_|refine u6 ?_|refine u7 ?_|refine u8 ?_|refine u9 ?_|(refine Br.mk ?_ ?_<;>intro hc)|(refine An.mk ?_;intro x hx))
    · rw [← hF]; simp [hc]
    · exact ei_n () (by rw [← hF]; simp [hc]) (take_all hI hx (by omega)) nm
  · intro g hF hI
    repeat' (first|refine st ?_|refine u0 ?_|refine u1 ?_|refine u2 ?_|refine u3 ?_|refine u4 ?_|refine u5 ?_|refine u6 ?_|refine u7 ?_|refine u8 ?_|refine u9 ?_|(refine Br.mk ?_ ?_<;>intro hc)|(refine An.mk ?_;intro x hx))
    have hal := take_end hI
    refine wp_upto (a.length) (fun r _ => r.all (fun i => (List.range a.length).all (fun k => (List.range a.length).all (fun m => !(at2 a i k && at2 a k m && !at2 a i m))) && !at2 a i i)) (fun i (_ : Unit) => ⟨envA [(1, .hp 0 0), (34, .i n), (35, .i (i : Nat))], heapA [some ⟨2, [.st [.i n, eL eB a]], false⟩], 1, false⟩) (()) (R) nm ?_ ?_ ?_
    · rw [← hF]; simp
    · intro i g hi hF
      repeat' (first|refine st ?_|refine u0 ?_|refine u1 ?_|refine u2 ?_|refine u3 ?_|refine u4 ?_|refine u5 ?_|refine u6 ?_|refine u7 ?_|refine u8 ?_|refine u9 ?_|(refine Br.mk ?_ ?_<;>intro hc)|(refine An.mk ?_;intro x hx))
      refine wp_upto (a.length) (fun r _ => r.all (fun k => (List.range a.length).all (fun m => !(at2 a i k && at2 a k m && !at2 a i m))) && (!at2 a i i && ((List.range a.length).drop (i + 1)).all (fun i => (List.range a.length).all (fun k => (List.range a.length).all (fun m => !(at2 a i k && at2 a k m && !at2 a i m))) && !at2 a i i))) (fun k (_ : Unit) => ⟨envA [(1, .hp 0 0), (5, .i (i : Nat)), (34, .i n), (35, .i (i : Nat)), (39, .i n), (40, .i (k : Nat))], heapA [some ⟨2, [.st [.i n, eL eB a]], false⟩], 1, false⟩) (()) (R) nm ?_ ?_ ?_
      · rw [← hF]; simp [Bool.and_assoc]
      · intro k g hk hF
        repeat' (first|refine st ?_|refine u0 ?_|refine u1 ?_|refine u2 ?_|refine u3 ?_|refine u4 ?_|refine u5 ?_|refine u6 ?_|refine u7 ?_|refine u8 ?_|refine u9 ?_|(refine Br.mk ?_ ?_<;>intro hc)|(refine An.mk ?_;intro x hx))
        generalize hX : (((List.range a.length).drop (k + 1)).all (fun k => (List.range a.length).all (fun m => !(at2 a i k && at2 a k m && !at2 a i m))) && (!at2 a i i && ((List.range a.length).drop (i + 1)).all (fun i => (List.range a.length).all (fun k => (List.range a.length).all (fun m => !(at2 a i k && at2 a k m && !at2 a i m))) && !at2 a i i))) = X at hF
        refine wp_upto (a.length) (fun r _ => r.all (fun m => !(at2 a i k && at2 a k m && !at2 a i m)) && X) (fun m (_ : Unit) => ⟨envA [(1, .hp 0 0), (5, .i (i : Nat)), (6, .i (k : Nat)), (34, .i n), (35, .i (i : Nat)), (39, .i n), (40, .i (k : Nat)), (44, .i n), (45, .i (m : Nat))], heapA [some ⟨2, [.st [.i n, eL eB a]], false⟩], 1, false⟩) (()) (R) nm ?_ ?_ ?_
        · rw [← hF, ← hX]; simp [Bool.and_assoc]
        · intro m g hm hF
          obtain ⟨ri, hri, _, hli⟩ := row_of hal hi
          obtain ⟨rk, hrk, _, hlk⟩ := row_of hal hk
          obtain ⟨b1, hb1⟩ := cell_of (r := ri) (j := k) (by omega)
          obtain ⟨b2, hb2⟩ := cell_of (r := rk) (j := m) (by omega)
          obtain ⟨b3, hb3⟩ := cell_of (r := ri) (j := m) (by omega)
          simp only [List.all_cons, at2_of hri hb1, at2_of hrk hb2, at2_of hri hb3] at hF
          repeat' (first|refine st ?_|refine u0 ?_|refine u1 ?_|refine u2 ?_|refine u3 ?_|refine u4 ?_|refine u5 ?_|refine u6 ?_|refine u7 ?_|refine u8 ?_|refine u9 ?_|(refine Br.mk ?_ ?_<;>intro hc)|(refine An.mk ?_;intro x hx))
          all_goals first | (rw [← hF]; simp [*]; done) | exact ea_n () (by rw [← hF]; simp [*, at2_of hri hb1]) nm
        · intro g hF
          repeat' (first|refine st ?_|refine u0 ?_|refine u1 ?_|refine u2 ?_|refine u3 ?_|refine u4 ?_|refine u5 ?_|refine u6 ?_|refine u7 ?_|refine u8 ?_|refine u9 ?_|(refine Br.mk ?_ ?_<;>intro hc)|(refine An.mk ?_;intro x hx))
          exact ea_n () (by rw [← hF, ← hX]; simp) nm
      · intro g hF
        obtain ⟨ri, hri, _, hli⟩ := row_of hal hi
        obtain ⟨b1, hb1⟩ := cell_of (r := ri) (j := i) (by omega)
        simp only [at2_of hri hb1] at hF
        repeat' (first|refine st ?_|refine u0 ?_|refine u1 ?_|refine u2 ?_|refine u3 ?_|refine u4 ?_|refine u5 ?_|refine u6 ?_|refine u7 ?_|refine u8 ?_|refine u9 ?_|(refine Br.mk ?_ ?_<;>intro hc)|(refine An.mk ?_;intro x hx))
        · rw [← hF]; simp [*]
        · exact ea_n () (by rw [← hF]; simp [*]) nm
    · intro g hF
      repeat' (first|refine st ?_|refine u0 ?_|refine u1 ?_|refine u2 ?_|refine u3 ?_|refine u4 ?_|refine u5 ?_|refine u6 ?_|refine u7 ?_|refine u8 ?_|refine u9 ?_|(refine Br.mk ?_ ?_<;>intro hc)|(refine An.mk ?_;intro x hx))
      rw [← hF]; rfl
theorem k_sIsOrder (n : Int) (a : List (List Bool)) (ha : Bnd.ok a) : CALLB Γ T 14 [] [eO n a] = some (.b (isOrder n a), []) := by
  have hle := ok_len ha
  apply call_ro' rfl rfl rfl rfl
  generalize hR : isOrder n a = R
  repeat' (first|refine st ?_|refine u0 ?_|refine u1 ?_|refine u2 ?_|refine u3 ?_|refine u4 ?_|refine u5 ?_|refine u6 ?_|refine u7 ?_|refine u8 ?_|refine u9 ?_|(apply i_ca;first|(apply i_f 46;refine c0 (k_l1In _ _ _) ?_))|(refine Br.mk ?_ ?_<;>intro hc)|(refine An.mk ?_;intro x hx))
  · simp [← hR, isOrder, hc]
  · simp [← hR, isOrder, hc]
  refine wp_eachI (a) (fun r _ => r.all (fun r => decide ((r.length : Int) = n)) && ((List.range' (a.length - r.length) r.length).all (fun i => !at2 a i i) && (List.range a.length).all (fun i => (List.range a.length).all (fun k => (List.range a.length).all (fun m => !(at2 a i k && at2 a k m && !at2 a i m)))))) (fun i (_ : Unit) => ⟨envA [(1, .hp 0 0), (3, .i (i : Nat))], heapA [some ⟨2, [.st [.i n, eL eB a]], false⟩], 1, false⟩) (()) (R) (fun i (_ : Unit) => ∀ r ∈ a.take i, (r.length : Int) = n) nm ?_ ?_ ?_ ?_
  · rw [← hR, Bool.eq_iff_iff]
    simp only [isOrder, Bool.and_eq_true, List.all_eq_true, Nat.sub_self, ← List.range_eq_range', decide_eq_true_eq]
    constructor
    · rintro ⟨h1, h2, h3⟩; exact ⟨by assumption, by assumption, h1, fun i hi => ⟨h3 i hi, h2 i hi⟩⟩
    · rintro ⟨_, _, h1, h2⟩; exact ⟨h1, fun i hi => (h2 i hi).2, fun i hi => (h2 i hi).1⟩
  · exact take_nil
  · intro i g x hi hx hm hF hI
    have hxl := ok_len (ok_mem ha hm)
    have hr : (List.range' (a.length - (x :: a.drop (i + 1)).length) (x :: a.drop (i + 1)).length) = i :: List.range' (a.length - (a.drop (i + 1)).length) (a.drop (i + 1)).length := by
      simp only [List.length_cons, List.length_drop]
      rw [List.range'_succ, show a.length - (a.length - (i + 1) + 1) = i by omega, show a.length - (a.length - (i + 1)) = i + 1 by omega]
    simp only [hr, List.all_cons] at hF
    by_cases hxn : (x.length : Int) = n
    · obtain ⟨b1, hb1⟩ := cell_of (r := x) (j := i) (by omega)
      simp only [at2_of hx hb1] at hF
      repeat' (first|refine st ?_|refine u0 ?_|refine u1 ?_|refine u2 ?_|refine u3 ?_|refine u4 ?_|refine u5 ?_|refine u6 ?_|refine u7 ?_|refine u8 ?_|refine u9 ?_|(refine Br.mk ?_ ?_<;>intro hc)|(refine An.mk ?_;intro x hx))
      · rw [← hF]; simp [*]
      · exact ei_n () (by rw [← hF]; simp [*]) (take_all hI hx (by omega)) nm
    · repeat' (first|refine st ?_|refine u0 ?_|refine u1 ?_|refine u2 ?_|refine u3 ?_|refine u4 ?_|refine u5 ?_|refine u6 ?_|refine u7 ?_|refine u8 ?_|refine u9 ?_|(refine Br.mk ?_ ?_<;>intro hc)|(refine An.mk ?_;intro x hx))
      rw [← hF]; simp [*]
  · intro g hF hI
    repeat' (first|refine st ?_|refine u0 ?_|refine u1 ?_|refine u2 ?_|refine u3 ?_|refine u4 ?_|refine u5 ?_|refine u6 ?_|refine u7 ?_|refine u8 ?_|refine u9 ?_|(refine Br.mk ?_ ?_<;>intro hc)|(refine An.mk ?_;intro x hx))
    have hal := take_end hI
    refine wp_upto (a.length) (fun r _ => r.all (fun i => (List.range a.length).all (fun k => (List.range a.length).all (fun m => !(at2 a i k && at2 a k m && !at2 a i m))))) (fun i (_ : Unit) => ⟨envA [(1, .hp 0 0), (4, .i (i : Nat))], heapA [some ⟨2, [.st [.i n, eL eB a]], false⟩], 1, false⟩) (()) (R) nm ?_ ?_ ?_
    · rw [← hF]; simp
    · intro i g hi hF
      repeat' (first|refine st ?_|refine u0 ?_|refine u1 ?_|refine u2 ?_|refine u3 ?_|refine u4 ?_|refine u5 ?_|refine u6 ?_|refine u7 ?_|refine u8 ?_|refine u9 ?_|(refine Br.mk ?_ ?_<;>intro hc)|(refine An.mk ?_;intro x hx))
      generalize hY : ((List.range a.length).drop (i + 1)).all (fun i => (List.range a.length).all (fun k => (List.range a.length).all (fun m => !(at2 a i k && at2 a k m && !at2 a i m)))) = Y at hF
      refine wp_upto (a.length) (fun r _ => r.all (fun k => (List.range a.length).all (fun m => !(at2 a i k && at2 a k m && !at2 a i m))) && Y) (fun k (_ : Unit) => ⟨envA [(1, .hp 0 0), (4, .i (i : Nat)), (5, .i (k : Nat))], heapA [some ⟨2, [.st [.i n, eL eB a]], false⟩], 1, false⟩) (()) (R) nm ?_ ?_ ?_
      · rw [← hF, ← hY]; rfl
      · intro k g hk hF
        repeat' (first|refine st ?_|refine u0 ?_|refine u1 ?_|refine u2 ?_|refine u3 ?_|refine u4 ?_|refine u5 ?_|refine u6 ?_|refine u7 ?_|refine u8 ?_|refine u9 ?_|(refine Br.mk ?_ ?_<;>intro hc)|(refine An.mk ?_;intro x hx))
        generalize hX : (((List.range a.length).drop (k + 1)).all (fun k => (List.range a.length).all (fun m => !(at2 a i k && at2 a k m && !at2 a i m))) && Y) = X
        refine wp_upto (a.length) (fun r _ => r.all (fun m => !(at2 a i k && at2 a k m && !at2 a i m)) && X) (fun m (_ : Unit) => ⟨envA [(1, .hp 0 0), (4, .i (i : Nat)), (5, .i (k : Nat)), (6, .i (m : Nat))], heapA [some ⟨2, [.st [.i n, eL eB a]], false⟩], 1, false⟩) (()) (R) nm ?_ ?_ ?_
        · rw [← hF, ← hX]; simp [Bool.and_assoc]
        · intro m g hm hF
          obtain ⟨ri, hri, _, hli⟩ := row_of hal hi
          obtain ⟨rk, hrk, _, hlk⟩ := row_of hal hk
          obtain ⟨b1, hb1⟩ := cell_of (r := ri) (j := k) (by omega)
          obtain ⟨b2, hb2⟩ := cell_of (r := rk) (j := m) (by omega)
          obtain ⟨b3, hb3⟩ := cell_of (r := ri) (j := m) (by omega)
          simp only [List.all_cons, at2_of hri hb1, at2_of hrk hb2, at2_of hri hb3] at hF
          repeat' (first|refine st ?_|refine u0 ?_|refine u1 ?_|refine u2 ?_|refine u3 ?_|refine u4 ?_|refine u5 ?_|refine u6 ?_|refine u7 ?_|refine u8 ?_|refine u9 ?_|(refine Br.mk ?_ ?_<;>intro hc)|(refine An.mk ?_;intro x hx))
          all_goals first | (rw [← hF]; simp [*]; done) | exact ea_n () (by rw [← hF]; simp [*, at2_of hri hb1]) nm
        · intro g hF
          repeat' (first|refine st ?_|refine u0 ?_|refine u1 ?_|refine u2 ?_|refine u3 ?_|refine u4 ?_|refine u5 ?_|refine u6 ?_|refine u7 ?_|refine u8 ?_|refine u9 ?_|(refine Br.mk ?_ ?_<;>intro hc)|(refine An.mk ?_;intro x hx))
          exact ea_n () (by rw [← hF, ← hX]; simp) nm
      · intro g hF
        repeat' (first|refine st ?_|refine u0 ?_|refine u1 ?_|refine u2 ?_|refine u3 ?_|refine u4 ?_|refine u5 ?_|refine u6 ?_|refine u7 ?_|refine u8 ?_|refine u9 ?_|(refine Br.mk ?_ ?_<;>intro hc)|(refine An.mk ?_;intro x hx))
        exact ea_n () (by rw [← hF, ← hY]; simp) nm
    · intro g hF
      repeat' (first|refine st ?_|refine u0 ?_|refine u1 ?_|refine u2 ?_|refine u3 ?_|refine u4 ?_|refine u5 ?_|refine u6 ?_|refine u7 ?_|refine u8 ?_|refine u9 ?_|(refine Br.mk ?_ ?_<;>intro hc)|(refine An.mk ?_;intro x hx))
      rw [← hF]; rfl
theorem drop_get {α : Type} {e l : List α} {j : Nat} {x : α} (h : e.drop j = l.drop j) (hx : l[j]? = some x) : e[j]? = some x := by
  have h1 : (e.drop j)[0]? = (l.drop j)[0]? := by rw [h]
  simpa [hx] using h1
theorem drop_next {α : Type} {e l : List α} {j : Nat} (h : e.drop j = l.drop j) : e.drop (j + 1) = l.drop (j + 1) := by
  rw [← List.drop_drop, ← List.drop_drop, h]
theorem take_set {α : Type} {e : List α} {i : Nat} {x : α} (hi : i < e.length) : (e.set i x).take (i + 1) = e.take i ++ [x] := by
  rw [List.take_set, List.take_succ_eq_append_getElem hi, List.set_append_right _ _ (by simp; omega)]
  have : i - (e.take i).length = 0 := by simp; omega
  rw [this]; rfl
theorem drop_set {α : Type} {e : List α} {i j : Nat} {x : α} (h : i < j) : (e.set i x).drop j = e.drop j := by
  rw [List.drop_set, if_pos h]
theorem filter_self {α : Type} {q : α → Bool} {l : List α} (h : ∀ x ∈ l, q x = true) : l.filter q = l := List.filter_eq_self.2 h
def mk (k : Int) (n : Nat) : List Int := (List.range n).map fun j => k + (j : Nat)
theorem mk_succ (k : Int) (n : Nat) : mk k (n + 1) = mk k n ++ [k + (n : Nat)] := by simp [mk, List.range_succ]
theorem mk_len (k : Int) (n : Nat) : (mk k n).length = n := by simp [mk]
theorem mark_IntS (l : List Int) (k : Int) (hl : l.length ≤ 2 ^ 40) (hk : 0 ≤ k ∧ k ≤ 2 ^ 50) : CALLB Γ T 63 [.io, .ro] [ioT 1 V.i l, .i k] = some (.i (k + (l.length : Nat)), [ioT 1 V.i (mk k l.length)]) := by
  by_cases h0 : l = []
  · subst h0
    refine call_io rfl rfl rfl rfl tkLA ?_
    refine st ?_
    refine wp_while (fun (_ : Unit) => ⟨envA [(0, .sl []), (1, .i k), (5, .i 0)], heapA [], 0, false⟩) (fun (_ : Unit) => True) (fun (_ : Unit) => 0) (()) nm ?_ ?_
    · trivial
    · intro _ _
      repeat' (first|refine st ?_|refine u0 ?_|refine u1 ?_|refine u2 ?_|refine u3 ?_|refine u4 ?_|refine u5 ?_|refine u6 ?_|refine u7 ?_|refine u8 ?_|refine u9 ?_|(refine Br.mk ?_ ?_<;>intro hc)|(refine An.mk ?_;intro x hx))
      refine io_r (fioS ?_)
      simp
  · rw [ioT_ne h0, ioT_ne (by intro h; exact h0 (List.length_eq_zero_iff.1 (by rw [← mk_len k l.length, h]; rfl)))]
    refine call_io rfl rfl rfl rfl tkLA ?_
    refine st ?_
    refine wp_eachI (l) (fun _ _ => ()) (fun i (g : List Int × Int) => ⟨envA [(0, .hs 0 0 l.length l.length), (1, .i g.2), (5, .i (i : Nat))], heapA [some ⟨1, g.1.map V.i, false⟩], 1, false⟩) ((l, k)) (()) (fun i (g : List Int × Int) => g.1.length = l.length ∧ g.1.take i = mk k i ∧ g.2 = k + (i : Nat)) nm ?_ ?_ ?_ ?_
    · rfl
    · exact ⟨rfl, rfl, by simp⟩
    · rintro i ⟨g, q⟩ x hi hx hm hF ⟨hg, hgt, rfl⟩
      dsimp only at hg hgt ⊢
      repeat' (first|refine st ?_|refine u0 ?_|refine u1 ?_|refine u2 ?_|refine u3 ?_|refine u4 ?_|refine u5 ?_|refine u6 ?_|refine u7 ?_|refine u8 ?_|refine u9 ?_|(refine Br.mk ?_ ?_<;>intro hc)|(refine An.mk ?_;intro x hx))
      exact ei_n (g.set i (k + (i : Nat)), k + (i : Nat) + 1) rfl ⟨by simpa using hg, by rw [take_set (by omega), hgt, mk_succ], by show k + (i : Nat) + 1 = k + ((i + 1 : Nat) : Int); omega⟩ nm
    · rintro ⟨g, q⟩ hF ⟨hg, hgt, rfl⟩
      dsimp only at hg hgt ⊢
      repeat' (first|refine st ?_|refine u0 ?_|refine u1 ?_|refine u2 ?_|refine u3 ?_|refine u4 ?_|refine u5 ?_|refine u6 ?_|refine u7 ?_|refine u8 ?_|refine u9 ?_|(refine Br.mk ?_ ?_<;>intro hc)|(refine An.mk ?_;intro x hx))
      have hm : g = mk k l.length := by rw [← hgt, ← hg, List.take_length]
      exact io_r (fioN rfl rfl (gv_hs ⟨hm⟩ rfl hg.symm (fun _ => okA)))
theorem ok_nilL {α : Type} [Bnd α] : Bnd.ok ([] : List α) := ⟨by simp, by simp⟩
/-- A list, marked from k on: 'f': an element marked; 'c': how many marks. -/
def mkS {α : Type} (f : Int → α → α) (c : α → Nat) : Int → List α → List α
  | _, [] => []
  | k, a :: l => f k a :: mkS f c (k + (c a : Nat)) l
def cnS {α : Type} (c : α → Nat) (l : List α) : Nat := (l.map c).sum
section
variable {α : Type} {f : Int → α → α} {c : α → Nat}
theorem mkS_len : ∀ (k : Int) (l : List α), (mkS f c k l).length = l.length
  | _, [] => rfl
  | k, a :: l => by simp [mkS, mkS_len]
theorem mkS_get : ∀ (k : Int) (l : List α) (i : Nat) (a : α), l[i]? = some a → (mkS f c k l)[i]? = some (f (k + (cnS c (l.take i) : Nat)) a)
  | _, [], _, _, h => by simp at h
  | k, b :: l, 0, a, h => by
    obtain rfl : b = a := by simpa using h
    simp [mkS, cnS]
  | k, b :: l, i + 1, a, h => by
    have := mkS_get (k + (c b : Nat)) l i a (by simpa using h)
    simp only [mkS, List.getElem?_cons_succ, this, cnS, List.take_succ_cons, List.map_cons, List.sum_cons]
    rw [show k + (c b : Nat) + (((l.take i).map c).sum : Nat) = k + ((c b + ((l.take i).map c).sum : Nat) : Int) by push_cast; omega]
theorem cnS_succ {l : List α} {i : Nat} {a : α} (h : l[i]? = some a) : cnS c (l.take (i + 1)) = cnS c (l.take i) + c a := by
  rw [List.take_add_one, h]; simp [cnS]
theorem cnS_all {l : List α} : cnS c (l.take l.length) = cnS c l := by rw [List.take_length]
theorem cnS_le {l : List α} {b : Nat} (h : ∀ a ∈ l, c a ≤ b) : cnS c l ≤ l.length * b := by
  induction l with
  | nil => simp [cnS]
  | cons a l ih =>
    have h1 := h a (by simp)
    have h2 := ih fun x hx => h x (by simp [hx])
    simp only [cnS, List.map_cons, List.sum_cons, List.length_cons, Nat.add_mul] at h2 ⊢
    omega
theorem cnS_take : ∀ {l : List α} {i : Nat}, cnS c (l.take i) ≤ cnS c l
  | [], i => by simp [cnS]
  | a :: l, 0 => by simp [cnS]
  | a :: l, i + 1 => by
    have := cnS_take (l := l) (i := i)
    simp only [cnS, List.take_succ_cons, List.map_cons, List.sum_cons] at this ⊢
    omega
theorem mkS_ne {k : Int} : ∀ {l : List α}, l ≠ [] → mkS f c k l ≠ []
  | [], h => absurd rfl h
  | _ :: _, _ => by simp [mkS]
end
abbrev mkIntSS (k : Int) (l : List (List Int)) : List (List Int) := mkS (fun k r => mk k r.length) List.length k l
theorem cn_IntSS {l : List (List Int)} (h : Bnd.ok l) : cnS List.length l ≤ 2 ^ 40 := by
  have h1 := cnS_le (c := List.length) (l := l) (b := 2 ^ 20) fun a ha => ok_len (ok_mem h ha)
  have h2 := ok_len h
  have : l.length * 2 ^ 20 ≤ 2 ^ 20 * 2 ^ 20 := Nat.mul_le_mul_right _ h2
  omega
theorem mark_IntSS (l : List (List Int)) (k : Int) (hl : Bnd.ok l) (hk : 0 ≤ k ∧ k ≤ 2 ^ 45) : CALLB Γ T 33 [.io, .ro] [ioT 1 oI l, .i k] = some (.i (k + (cnS List.length l : Nat)), [ioT 1 oI (mkIntSS k l)]) := by
  have hle := ok_len hl
  have hcn := cn_IntSS hl
  by_cases h0 : l = []
  · subst h0
    refine call_io rfl rfl rfl rfl tkLA ?_
    refine st ?_
    refine wp_while (fun (_ : Unit) => ⟨envA [(0, .sl []), (1, .i k), (5, .i 0)], heapA [], 0, false⟩) (fun (_ : Unit) => True) (fun (_ : Unit) => 0) (()) nm ?_ ?_
    · trivial
    · intro _ _
      repeat' (first|refine st ?_|refine u0 ?_|refine u1 ?_|refine u2 ?_|refine u3 ?_|refine u4 ?_|refine u5 ?_|refine u6 ?_|refine u7 ?_|refine u8 ?_|refine u9 ?_|(refine Br.mk ?_ ?_<;>intro hc)|(refine An.mk ?_;intro x hx))
      refine io_r (fioS ?_)
      simp [cnS]
  · rw [ioT_ne h0, ioT_ne (mkS_ne h0)]
    refine call_io rfl rfl rfl rfl tkLA ?_
    refine st ?_
    refine wp_eachI (l) (fun _ _ => ()) (fun i (g : List (List Int) × Int) => ⟨envA [(0, .hs 0 0 l.length l.length), (1, .i g.2), (5, .i (i : Nat))], heapA [some ⟨1, g.1.map oI, false⟩], 1, false⟩) ((l, k)) (()) (fun i (g : List (List Int) × Int) => g.1 = mx i (mkIntSS k l) l ∧ g.2 = k + (cnS List.length (l.take i) : Nat)) nm ?_ ?_ ?_ ?_
    · rfl
    · exact ⟨mx_0.symm, by simp [cnS]⟩
    · rintro i ⟨g, q⟩ x hi hx hm hF ⟨hg, rfl⟩
      dsimp only at hg ⊢
      have hA : (mkIntSS k l).length = l.length := mkS_len _ _
      have hgi : g[i]? = some x := by rw [hg, mx_get hA hi]; exact hx
      have hgl : l.length = g.length := by rw [hg, mx_len hA]
      have hxl := ok_len (ok_mem hl hm)
      have hct := cnS_take (c := List.length) (l := l) (i := i)
      have hmk : x.length = (mk (k + (cnS List.length (l.take i) : Nat)) x.length).length := (mk_len _ _).symm
      repeat' (first|refine st ?_|refine u0 ?_|refine u1 ?_|refine u2 ?_|refine u3 ?_|refine u4 ?_|refine u5 ?_|refine u6 ?_|refine u7 ?_|refine u8 ?_|refine u9 ?_|(apply i_ca;first|(apply i_f 63;refine ci (mark_IntS x (k + (cnS List.length (l.take i) : Nat)) (by omega) (by omega)) ?_ ?_))|(refine Br.mk ?_ ?_<;>intro hc)|(refine An.mk ?_;intro x hx))
      · exact mk_len _ _
      repeat' (first|refine st ?_|refine u0 ?_|refine u1 ?_|refine u2 ?_|refine u3 ?_|refine u4 ?_|refine u5 ?_|refine u6 ?_|refine u7 ?_|refine u8 ?_|refine u9 ?_|(refine Br.mk ?_ ?_<;>intro hc)|(refine An.mk ?_;intro x hx))
      refine ei_n (g.set i (mk (k + (cnS List.length (l.take i) : Nat)) x.length), k + (cnS List.length (l.take i) : Nat) + (x.length : Nat)) rfl ⟨?_, ?_⟩ nm
      · rw [hg]; exact mx_set hA (mkS_get k l i x hx)
      · rw [cnS_succ hx]; push_cast; omega
    · rintro ⟨g, q⟩ hF ⟨hg, rfl⟩
      dsimp only at hg ⊢
      have hA : (mkIntSS k l).length = l.length := mkS_len _ _
      rw [mx_end hA] at hg
      have hgl : l.length = g.length := by rw [hg, hA]
      repeat' (first|refine st ?_|refine u0 ?_|refine u1 ?_|refine u2 ?_|refine u3 ?_|refine u4 ?_|refine u5 ?_|refine u6 ?_|refine u7 ?_|refine u8 ?_|refine u9 ?_|(refine Br.mk ?_ ?_<;>intro hc)|(refine An.mk ?_;intro x hx))
      refine io_r (fioN ?_ rfl (gv_hs ⟨hg⟩ rfl hgl (fun _ => okA)))
      rw [cnS_all]
def mkB (k : Int) (n : Nat) : List Bool := (List.range n).map fun j => decide ((k + (j : Nat)).tmod 3 = 0)
theorem mkB_succ (k : Int) (n : Nat) : mkB k (n + 1) = mkB k n ++ [decide ((k + (n : Nat)).tmod 3 = 0)] := by simp [mkB, List.range_succ]
theorem mkB_len (k : Int) (n : Nat) : (mkB k n).length = n := by simp [mkB]
theorem mark_BoolS (l : List Bool) (k : Int) (hl : l.length ≤ 2 ^ 40) (hk : 0 ≤ k ∧ k ≤ 2 ^ 50) : CALLB Γ T 77 [.io, .ro] [ioT 1 V.b l, .i k] = some (.i (k + (l.length : Nat)), [ioT 1 V.b (mkB k l.length)]) := by
  by_cases h0 : l = []
  · subst h0
    refine call_io rfl rfl rfl rfl tkLA ?_
    refine st ?_
    refine wp_while (fun (_ : Unit) => ⟨envA [(0, .sl []), (1, .i k), (5, .i 0)], heapA [], 0, false⟩) (fun (_ : Unit) => True) (fun (_ : Unit) => 0) (()) nm ?_ ?_
    · trivial
    · intro _ _
      repeat' (first|refine st ?_|refine u0 ?_|refine u1 ?_|refine u2 ?_|refine u3 ?_|refine u4 ?_|refine u5 ?_|refine u6 ?_|refine u7 ?_|refine u8 ?_|refine u9 ?_|refine u10 ?_|refine u11 ?_|refine v0 ?_|refine v2 ?_|refine v3 ?_|refine v4 ?_|refine x1 ?_|refine x2 ?_|(refine Br.mk ?_ ?_<;>intro hc<;>try contradiction)|(refine An.mk ?_;intro x hx))
      refine io_r (fioS ?_)
      simp
  · rw [ioT_ne h0, ioT_ne (by intro h; exact h0 (List.length_eq_zero_iff.1 (by rw [← mkB_len k l.length, h]; rfl)))]
    refine call_io rfl rfl rfl rfl tkLA ?_
    refine st ?_
    refine wp_eachI (l) (fun _ _ => ()) (fun i (g : List Bool × Int) => ⟨envA [(0, .hs 0 0 l.length l.length), (1, .i g.2), (5, .i (i : Nat))], heapA [some ⟨1, g.1.map V.b, false⟩], 1, false⟩) ((l, k)) (()) (fun i (g : List Bool × Int) => g.1.length = l.length ∧ g.1.take i = mkB k i ∧ g.2 = k + (i : Nat)) nm ?_ ?_ ?_ ?_
    · rfl
    · exact ⟨rfl, rfl, by simp⟩
    · rintro i ⟨g, q⟩ x hi hx hm hF ⟨hg, hgt, rfl⟩
      dsimp only at hg hgt ⊢
      repeat' (first|refine st ?_|refine u0 ?_|refine u1 ?_|refine u2 ?_|refine u3 ?_|refine u4 ?_|refine u5 ?_|refine u6 ?_|refine u7 ?_|refine u8 ?_|refine u9 ?_|refine u10 ?_|refine u11 ?_|refine v0 ?_|refine v2 ?_|refine v3 ?_|refine v4 ?_|refine x1 ?_|refine x2 ?_|(refine Br.mk ?_ ?_<;>intro hc<;>try contradiction)|(refine An.mk ?_;intro x hx))
      exact ei_n (g.set i (decide ((k + (i : Nat)).tmod 3 = 0)), k + (i : Nat) + 1) rfl ⟨by simpa using hg, by rw [take_set (by omega), hgt, mkB_succ], by show k + (i : Nat) + 1 = k + ((i + 1 : Nat) : Int); omega⟩ nm
    · rintro ⟨g, q⟩ hF ⟨hg, hgt, rfl⟩
      dsimp only at hg hgt ⊢
      repeat' (first|refine st ?_|refine u0 ?_|refine u1 ?_|refine u2 ?_|refine u3 ?_|refine u4 ?_|refine u5 ?_|refine u6 ?_|refine u7 ?_|refine u8 ?_|refine u9 ?_|refine u10 ?_|refine u11 ?_|refine v0 ?_|refine v2 ?_|refine v3 ?_|refine v4 ?_|refine x1 ?_|refine x2 ?_|(refine Br.mk ?_ ?_<;>intro hc<;>try contradiction)|(refine An.mk ?_;intro x hx))
      have hm : g = mkB k l.length := by rw [← hgt, ← hg, List.take_length]
      exact io_r (fioN rfl rfl (gv_hs ⟨hm⟩ rfl hg.symm (fun _ => okA)))
theorem mkB_get {k : Int} {n i : Nat} (h : i < n) : (mkB k n)[i]? = some (decide ((k + (i : Nat)).tmod 3 = 0)) := by simp [mkB, h]
theorem held_BoolS (n : Nat) (k : Int) (hl : n ≤ 2 ^ 40) (hk : 0 ≤ k ∧ k ≤ 2 ^ 50) : CALLB Γ T 78 [] [eB (mkB k n), .i k] = some (.i (k + (n : Nat)), []) := by
  have hml := mkB_len k n
  apply call_ro' rfl rfl rfl rfl
  repeat' (first|refine st ?_|refine u0 ?_|refine u1 ?_|refine u2 ?_|refine u3 ?_|refine u4 ?_|refine u5 ?_|refine u6 ?_|refine u7 ?_|refine u8 ?_|refine u9 ?_|refine u10 ?_|refine u11 ?_|refine v0 ?_|refine v2 ?_|refine v3 ?_|refine v4 ?_|refine x1 ?_|refine x2 ?_|(refine Br.mk ?_ ?_<;>intro hc<;>try contradiction)|(refine An.mk ?_;intro x hx))
  refine wp_eachI (mkB k n) (fun _ _ => ()) (fun i (g : Int) => ⟨envA [(0, eB (mkB k n)), (1, .i g), (5, .i (i : Nat))], heapA [], 0, false⟩) (k) (()) (fun i (g : Int) => g = k + (i : Nat)) nm ?_ ?_ ?_ ?_
  · rfl
  · simp
  · intro i g x hi hx hm hF hI
    subst hI
    have hgi := mkB_get (k := k) (n := n) (i := i) (by omega)
    rw [hx] at hgi
    obtain rfl := Option.some.inj hgi
    repeat' (first|refine st ?_|refine u0 ?_|refine u1 ?_|refine u2 ?_|refine u3 ?_|refine u4 ?_|refine u5 ?_|refine u6 ?_|refine u7 ?_|refine u8 ?_|refine u9 ?_|refine u10 ?_|refine u11 ?_|refine v0 ?_|refine v2 ?_|refine v3 ?_|refine v4 ?_|refine x1 ?_|refine x2 ?_|(refine Br.mk ?_ ?_<;>intro hc<;>try contradiction)|(refine An.mk ?_;intro x hx))
    all_goals first | exact absurd rfl hc | exact ei_n (k + (i : Nat) + 1) rfl (by omega) nm
  · rintro g hF rfl
    repeat' (first|refine st ?_|refine u0 ?_|refine u1 ?_|refine u2 ?_|refine u3 ?_|refine u4 ?_|refine u5 ?_|refine u6 ?_|refine u7 ?_|refine u8 ?_|refine u9 ?_|refine u10 ?_|refine u11 ?_|refine v0 ?_|refine v2 ?_|refine v3 ?_|refine v4 ?_|refine x1 ?_|refine x2 ?_|(refine Br.mk ?_ ?_<;>intro hc<;>try contradiction)|(refine An.mk ?_;intro x hx))
    rw [hml]
abbrev mkBoolSS (k : Int) (l : List (List Bool)) : List (List Bool) := mkS (fun k r => mkB k r.length) List.length k l
theorem cn_BoolSS {l : List (List Bool)} (h : Bnd.ok l) : cnS List.length l ≤ 2 ^ 40 := by
  have h1 := cnS_le (c := List.length) (l := l) (b := 2 ^ 20) fun a ha => ok_len (ok_mem h ha)
  have h2 := ok_len h
  have : l.length * 2 ^ 20 ≤ 2 ^ 20 * 2 ^ 20 := Nat.mul_le_mul_right _ h2
  omega
theorem mark_BoolSS (l : List (List Bool)) (k : Int) (hl : Bnd.ok l) (hk : 0 ≤ k ∧ k ≤ 2 ^ 45) : CALLB Γ T 62 [.io, .ro] [ioT 1 oB l, .i k] = some (.i (k + (cnS List.length l : Nat)), [ioT 1 oB (mkBoolSS k l)]) := by
  have hle := ok_len hl
  have hcn := cn_BoolSS hl
  by_cases h0 : l = []
  · subst h0
    refine call_io rfl rfl rfl rfl tkLA ?_
    refine st ?_
    refine wp_while (fun (_ : Unit) => ⟨envA [(0, .sl []), (1, .i k), (5, .i 0)], heapA [], 0, false⟩) (fun (_ : Unit) => True) (fun (_ : Unit) => 0) (()) nm ?_ ?_
    · trivial
    · intro _ _
      repeat' (first|refine st ?_|refine u0 ?_|refine u1 ?_|refine u2 ?_|refine u3 ?_|refine u4 ?_|refine u5 ?_|refine u6 ?_|refine u7 ?_|refine u8 ?_|refine u9 ?_|(refine Br.mk ?_ ?_<;>intro hc)|(refine An.mk ?_;intro x hx))
      refine io_r (fioS ?_)
      simp [cnS]
  · rw [ioT_ne h0, ioT_ne (mkS_ne h0)]
    refine call_io rfl rfl rfl rfl tkLA ?_
    refine st ?_
    refine wp_eachI (l) (fun _ _ => ()) (fun i (g : List (List Bool) × Int) => ⟨envA [(0, .hs 0 0 l.length l.length), (1, .i g.2), (5, .i (i : Nat))], heapA [some ⟨1, g.1.map oB, false⟩], 1, false⟩) ((l, k)) (()) (fun i (g : List (List Bool) × Int) => g.1 = mx i (mkBoolSS k l) l ∧ g.2 = k + (cnS List.length (l.take i) : Nat)) nm ?_ ?_ ?_ ?_
    · rfl
    · exact ⟨mx_0.symm, by simp [cnS]⟩
    · rintro i ⟨g, q⟩ x hi hx hm hF ⟨hg, rfl⟩
      dsimp only at hg ⊢
      have hA : (mkBoolSS k l).length = l.length := mkS_len _ _
      have hgi : g[i]? = some x := by rw [hg, mx_get hA hi]; exact hx
      have hgl : l.length = g.length := by rw [hg, mx_len hA]
      have hxl := ok_len (ok_mem hl hm)
      have hct := cnS_take (c := List.length) (l := l) (i := i)
      have hmk : x.length = (mkB (k + (cnS List.length (l.take i) : Nat)) x.length).length := (mkB_len _ _).symm
      repeat' (first|refine st ?_|refine u0 ?_|refine u1 ?_|refine u2 ?_|refine u3 ?_|refine u4 ?_|refine u5 ?_|refine u6 ?_|refine u7 ?_|refine u8 ?_|refine u9 ?_|(apply i_ca;first|(apply i_f 77;refine ci (mark_BoolS x (k + (cnS List.length (l.take i) : Nat)) (by omega) (by omega)) ?_ ?_))|(refine Br.mk ?_ ?_<;>intro hc)|(refine An.mk ?_;intro x hx))
      · exact mkB_len _ _
      repeat' (first|refine st ?_|refine u0 ?_|refine u1 ?_|refine u2 ?_|refine u3 ?_|refine u4 ?_|refine u5 ?_|refine u6 ?_|refine u7 ?_|refine u8 ?_|refine u9 ?_|(refine Br.mk ?_ ?_<;>intro hc)|(refine An.mk ?_;intro x hx))
      refine ei_n (g.set i (mkB (k + (cnS List.length (l.take i) : Nat)) x.length), k + (cnS List.length (l.take i) : Nat) + (x.length : Nat)) rfl ⟨?_, ?_⟩ nm
      · rw [hg]; exact mx_set hA (mkS_get k l i x hx)
      · rw [cnS_succ hx]; push_cast; omega
    · rintro ⟨g, q⟩ hF ⟨hg, rfl⟩
      dsimp only at hg ⊢
      have hA : (mkBoolSS k l).length = l.length := mkS_len _ _
      rw [mx_end hA] at hg
      have hgl : l.length = g.length := by rw [hg, hA]
      repeat' (first|refine st ?_|refine u0 ?_|refine u1 ?_|refine u2 ?_|refine u3 ?_|refine u4 ?_|refine u5 ?_|refine u6 ?_|refine u7 ?_|refine u8 ?_|refine u9 ?_|(refine Br.mk ?_ ?_<;>intro hc)|(refine An.mk ?_;intro x hx))
      refine io_r (fioN ?_ rfl (gv_hs ⟨hg⟩ rfl hgl (fun _ => okA)))
      rw [cnS_all]
theorem held_BoolSS (l : List (List Bool)) (k : Int) (hl : Bnd.ok l) (hk : 0 ≤ k ∧ k ≤ 2 ^ 45) : CALLB Γ T 68 [] [eL eB (mkBoolSS k l), .i k] = some (.i (k + (cnS List.length l : Nat)), []) := by
  have hle := ok_len hl
  have hcn := cn_BoolSS hl
  have hA : (mkBoolSS k l).length = l.length := mkS_len _ _
  apply call_ro' rfl rfl rfl rfl
  repeat' (first|refine st ?_|refine u0 ?_|refine u1 ?_|refine u2 ?_|refine u3 ?_|refine u4 ?_|refine u5 ?_|refine u6 ?_|refine u7 ?_|refine u8 ?_|refine u9 ?_|(refine Br.mk ?_ ?_<;>intro hc)|(refine An.mk ?_;intro x hx))
  refine wp_eachI (l) (fun _ _ => ()) (fun i (g : Int) => ⟨envA [(0, eL eB (mkBoolSS k l)), (1, .i g), (5, .i (i : Nat))], heapA [], 0, false⟩) (k) (()) (fun i (g : Int) => g = k + (cnS List.length (l.take i) : Nat)) nm ?_ ?_ ?_ ?_
  · rfl
  · simp [cnS]
  · rintro i g x hi hx hm hF rfl
    have hxm := mkS_get (f := fun k r => mkB k r.length) (c := List.length) k l i x hx
    have hxl := ok_len (ok_mem hl hm)
    have hct := cnS_take (c := List.length) (l := l) (i := i)
    repeat' (first|refine st ?_|refine u0 ?_|refine u1 ?_|refine u2 ?_|refine u3 ?_|refine u4 ?_|refine u5 ?_|refine u6 ?_|refine u7 ?_|refine u8 ?_|refine u9 ?_|(apply i_ca;first|(apply i_f 78;refine c0 (held_BoolS x.length (k + (cnS List.length (l.take i) : Nat)) (by omega) (by omega)) ?_))|(refine Br.mk ?_ ?_<;>intro hc)|(refine An.mk ?_;intro x hx))
    exact ei_n (k + (cnS List.length (l.take i) : Nat) + (x.length : Nat)) rfl (by rw [cnS_succ hx]; push_cast; omega) nm
  · rintro g hF rfl
    repeat' (first|refine st ?_|refine u0 ?_|refine u1 ?_|refine u2 ?_|refine u3 ?_|refine u4 ?_|refine u5 ?_|refine u6 ?_|refine u7 ?_|refine u8 ?_|refine u9 ?_|(refine Br.mk ?_ ?_<;>intro hc)|(refine An.mk ?_;intro x hx))
    rw [cnS_all]
theorem markN_BoolSS (k : Int) : CALLB Γ T 62 [.io, .ro] [.e0, .i k] = some (.i k, [.e0]) := by
  refine call_io rfl rfl rfl rfl tkLA ?_
  refine st ?_
  refine wp_while (fun (_ : Unit) => ⟨envA [(0, .e0), (1, .i k), (5, .i 0)], heapA [], 0, false⟩) (fun (_ : Unit) => True) (fun (_ : Unit) => 0) (()) nm ?_ ?_
  · trivial
  · intro _ _
    repeat' (first|refine st ?_|refine u0 ?_|refine u1 ?_|refine u2 ?_|refine u3 ?_|refine u4 ?_|refine u5 ?_|refine u6 ?_|refine u7 ?_|refine u8 ?_|refine u9 ?_|(refine Br.mk ?_ ?_<;>intro hc)|(refine An.mk ?_;intro x hx))
    all_goals first | (exfalso; simp at hc; done) | skip
    exact io_r (fioN rfl rfl (gv_e0 ⟨trivial⟩))
theorem mark_Order (n : Int) (a : List (List Bool)) (k : Int) (hl : Bnd.ok a) (hk : 0 ≤ k ∧ k ≤ 2 ^ 45) : CALLB Γ T 32 [.io, .ro] [.st [.i n, ioT 1 oB a], .i k] = some (.i (k + (cnS List.length a : Nat)), [.st [.i n, ioT 1 oB (mkBoolSS k a)]]) := by
  have hm := mark_BoolSS a k hl hk
  have hcn := cn_BoolSS hl
  by_cases h0 : a = []
  · subst h0
    refine call_io rfl rfl rfl rfl tkLA ?_
    repeat' (first|refine st ?_|refine u0 ?_|refine u1 ?_|refine u2 ?_|refine u3 ?_|refine u4 ?_|refine u5 ?_|refine u6 ?_|refine u7 ?_|refine u8 ?_|refine u9 ?_|refine u10 ?_|refine u11 ?_|refine v0 ?_|refine v2 ?_|refine v3 ?_|refine v4 ?_|refine x1 ?_|refine x2 ?_|(apply i_ca;first|(apply i_f 62;refine ciS (mark_BoolSS [] k hl hk) ?_))|(refine Br.mk ?_ ?_<;>intro hc<;>try contradiction)|(refine An.mk ?_;intro x hx))
    exact io_r (fioN rfl rfl (gv_st (go_im (go_sl go_nil))))
  · rw [ioT_ne h0, ioT_ne (mkS_ne h0)]
    refine call_io rfl rfl rfl rfl tkLA ?_
    repeat' (first|refine st ?_|refine u0 ?_|refine u1 ?_|refine u2 ?_|refine u3 ?_|refine u4 ?_|refine u5 ?_|refine u6 ?_|refine u7 ?_|refine u8 ?_|refine u9 ?_|refine u10 ?_|refine u11 ?_|refine v0 ?_|refine v2 ?_|refine v3 ?_|refine v4 ?_|refine x1 ?_|refine x2 ?_|(apply i_ca;first|(apply i_f 62;refine ci (mark_BoolSS a k hl hk) ?_ ?_))|(refine Br.mk ?_ ?_<;>intro hc<;>try contradiction)|(refine An.mk ?_;intro x hx))
    · exact mkS_len _ _
    exact io_r (fioN rfl rfl (gv_st (go_im (go_hs (f := oB) (ll := mkBoolSS k a) rfl (mkS_len _ _).symm (fun _ => okA) go_nil))))
theorem markN_Order (n : Int) (k : Int) : CALLB Γ T 32 [.io, .ro] [.st [.i n, .e0], .i k] = some (.i k, [.st [.i n, .e0]]) := by
  refine call_io rfl rfl rfl rfl tkLA ?_
  repeat' (first|refine st ?_|refine u0 ?_|refine u1 ?_|refine u2 ?_|refine u3 ?_|refine u4 ?_|refine u5 ?_|refine u6 ?_|refine u7 ?_|refine u8 ?_|refine u9 ?_|refine u10 ?_|refine u11 ?_|refine v0 ?_|refine v2 ?_|refine v3 ?_|refine v4 ?_|refine x1 ?_|refine x2 ?_|(apply i_ca;first|(apply i_f 62;refine ci0 (markN_BoolSS k) ?_))|(refine Br.mk ?_ ?_<;>intro hc<;>try contradiction)|(refine An.mk ?_;intro x hx))
  exact io_r (fioN rfl rfl (gv_st (go_im (go_e0 go_nil))))
theorem held_Order (n : Int) (a : List (List Bool)) (k : Int) (hl : Bnd.ok a) (hk : 0 ≤ k ∧ k ≤ 2 ^ 45) : CALLB Γ T 39 [] [eOrder (n, mkBoolSS k a), .i k] = some (.i (k + (cnS List.length a : Nat)), []) := by
  have hcn := cn_BoolSS hl
  apply call_ro' rfl rfl rfl rfl
  repeat' (first|refine st ?_|refine u0 ?_|refine u1 ?_|refine u2 ?_|refine u3 ?_|refine u4 ?_|refine u5 ?_|refine u6 ?_|refine u7 ?_|refine u8 ?_|refine u9 ?_|refine u10 ?_|refine u11 ?_|refine v0 ?_|refine v2 ?_|refine v3 ?_|refine v4 ?_|refine x1 ?_|refine x2 ?_|(apply i_ca;first|(apply i_f 68;refine c0 (held_BoolSS a k hl hk) ?_))|(refine Br.mk ?_ ?_<;>intro hc<;>try contradiction)|(refine An.mk ?_;intro x hx))
  all_goals rfl
def covB (a : List (List Bool)) (i k : Nat) : Bool := at2 a i k && (List.range a.length).all fun m => !(at2 a i m && at2 a m k)
def covRow (a : List (List Bool)) (i : Nat) (r : List Nat) : List (List Int) := (r.filter (covB a i)).map fun (k : Nat) => [(i : Int), (k : Int)]
def covAll (a : List (List Bool)) (r : List Nat) : List (List Int) := r.flatMap fun i => covRow a i (List.range a.length)
def coverL (n : Int) (a : List (List Bool)) : List (List Int) := if isOrder n a = true then covAll a (List.range a.length) else []
theorem isOrder_n {n : Int} {a : List (List Bool)} (h : isOrder n a = true) : 1 ≤ n ∧ n ≤ 5 ∧ (a.length : Int) = n ∧ ∀ r ∈ a, (r.length : Int) = n := by
  simp only [isOrder, Bool.and_eq_true, decide_eq_true_eq, List.all_eq_true] at h
  exact ⟨h.1.1, h.1.2, h.2.1, h.2.2.1⟩
theorem covRow_len {a : List (List Bool)} {i : Nat} {r : List Nat} : (covRow a i r).length ≤ r.length := by
  unfold covRow
  rw [List.length_map]
  exact List.length_filter_le _ _
theorem covAll_len {a : List (List Bool)} : ∀ {r : List Nat}, (covAll a r).length ≤ r.length * a.length
  | [] => by simp [covAll]
  | i :: r => by
    have h1 := covAll_len (a := a) (r := r)
    have h2 := covRow_len (a := a) (i := i) (r := List.range a.length)
    rw [List.length_range] at h2
    simp only [covAll, List.flatMap_cons, List.length_append, List.length_cons, Nat.add_mul] at h1 ⊢
    omega
abbrev noOrd (n : Nat) : List (List Bool) := List.replicate n (List.replicate n false)
theorem noOrd_succ {n : Nat} {r : List Bool} : List.replicate (n + 1) r = List.replicate n r ++ [r] := List.replicate_succ'
theorem k_noOrder (n : Nat) (hn : 1 ≤ n ∧ n ≤ 5) : CALLB Γ T 67 [] [.i (n : Nat)] = some (oOrder ((n : Int), noOrd n), []) := by
  apply call_ro' rfl rfl rfl rfl
  repeat' (first|refine st ?_|refine u0 ?_|refine u1 ?_|refine u2 ?_|refine u3 ?_|refine u4 ?_|refine u5 ?_|refine u6 ?_|refine u7 ?_|refine u8 ?_|refine u9 ?_|refine u10 ?_|refine u11 ?_|refine v0 ?_|refine v2 ?_|refine v3 ?_|refine v4 ?_|refine x1 ?_|refine x2 ?_|(refine Br.mk ?_ ?_<;>intro hc<;>try contradiction)|(refine An.mk ?_;intro x hx))
  refine wp_lp (wp_nm (s1 := ⟨envA [(0, .i (n : Nat)), (2, .hp 0 0), (3, .hp 1 0), (6, .i (n : Nat)), (7, .i 0)], heapA [some ⟨2, [.st [.i 0, .e0]], false⟩, some ⟨2, [.st [.i (n : Nat), .e0]], false⟩], 2, false⟩) nm ?_)
  repeat' (first|refine st ?_|refine u0 ?_|refine u1 ?_|refine u2 ?_|refine u3 ?_|refine u4 ?_|refine u5 ?_|refine u6 ?_|refine u7 ?_|refine u8 ?_|refine u9 ?_|refine u10 ?_|refine u11 ?_|refine v0 ?_|refine v2 ?_|refine v3 ?_|refine v4 ?_|refine x1 ?_|refine x2 ?_|(refine Br.mk ?_ ?_<;>intro hc<;>try contradiction)|(refine An.mk ?_;intro x hx))
  have hrep : List.replicate n (V.im (Value.bool false)) = (List.replicate n false).map V.b := by rw [List.map_replicate]
  simp only [hrep]
  have hrl : n = (List.replicate n false).length := by simp
  refine wp_while (fun (x : Nat × List (List Bool)) => ⟨envA [(0, .i (n : Nat)), (2, .hp 0 0), (3, .hp 1 0), (6, .i (n : Nat)), (7, .i (x.1 : Nat))], heapA [some ⟨2, [.st [.i 0, .e0]], false⟩, some ⟨2, [.st [.i (n : Nat), oL 1 oB x.2]], false⟩], 2, false⟩) (fun (x : Nat × List (List Bool)) => x.1 ≤ n ∧ x.2 = List.replicate x.1 (List.replicate n false)) (fun (x : Nat × List (List Bool)) => n - x.1) ((1, [List.replicate n false])) nm ?_ ?_
  · exact ⟨hn.1, rfl⟩
  · rintro ⟨i, g⟩ ⟨h1, h2⟩
    dsimp only at h1 h2 ⊢
    have hgl : g.length ≤ 5 := by rw [h2]; simp; omega
    repeat' (first|refine st ?_|refine u0 ?_|refine u1 ?_|refine u2 ?_|refine u3 ?_|refine u4 ?_|refine u5 ?_|refine u6 ?_|refine u7 ?_|refine u8 ?_|refine u9 ?_|refine u10 ?_|refine u11 ?_|refine v0 ?_|refine v2 ?_|refine v3 ?_|refine v4 ?_|refine x1 ?_|refine x2 ?_|(refine Br.mk ?_ ?_<;>intro hc<;>try contradiction)|(refine An.mk ?_;intro x hx))
    · simp only [hrep]
      exact lp_n (i + 1, g ++ [List.replicate n false]) (by show n - (i + 1) < n - i; omega) ⟨by show i + 1 ≤ n; omega, by show g ++ _ = _; rw [h2]; exact List.replicate_succ'.symm⟩ nm
    · exact ⟨rfl, by show g = noOrd n; rw [h2, show i = n by omega], trivial⟩
def Sh (m : Nat) (g : List (List Bool)) : Prop := g.length = m ∧ ∀ r ∈ g, r.length = m
theorem sh_row {m : Nat} {g : List (List Bool)} {i : Nat} (h : Sh m g) (hi : i < m) : ∃ r, g[i]? = some r ∧ r.length = m :=
  ⟨g[i]'(by rw [h.1]; exact hi), List.getElem?_eq_getElem _, h.2 _ (List.getElem_mem _)⟩
theorem sh_cell {m : Nat} {r : List Bool} {j : Nat} (h : r.length = m) (hj : j < m) : ∃ b, r[j]? = some b :=
  ⟨r[j]'(by rw [h]; exact hj), List.getElem?_eq_getElem _⟩
theorem sh_set {m : Nat} {g : List (List Bool)} {i : Nat} {r : List Bool} (h : Sh m g) (hr : r.length = m) : Sh m (g.set i r) :=
  ⟨by rw [List.length_set]; exact h.1, fun x hx => by rcases List.mem_or_eq_of_mem_set hx with h1 | h1; exact h.2 _ h1; rw [h1]; exact hr⟩
theorem sh_ok {m : Nat} {g : List (List Bool)} (h : Sh m g) (hm : m ≤ 5) : Bnd.ok g :=
  ⟨by show g.length ≤ _; rw [h.1]; omega, fun r hr => ⟨by show r.length ≤ _; rw [h.2 r hr]; omega, fun _ _ => trivial⟩⟩
theorem sh_no (m : Nat) : Sh m (noOrd m) := ⟨by simp, fun r hr => by rw [(List.mem_replicate.1 hr).2]; simp⟩
theorem set_same {α : Type} {l : List α} {i : Nat} {a : α} (h : l[i]? = some a) : l.set i a = l := by
  apply List.ext_getElem?; intro j
  by_cases hj : i = j
  · subst hj; rw [List.getElem?_set_self (List.getElem?_eq_some_iff.1 h).1, h]
  · rw [List.getElem?_set_ne hj]
theorem set_same2 {α : Type} {l : List α} {i k : Nat} {a r : α} (h : l[k]? = some a) (hn : i ≠ k) : (l.set i r).set k a = l.set i r := set_same (by rw [List.getElem?_set_ne hn]; exact h)
def setBit (g : List (List Bool)) (i j : Nat) : List (List Bool) := g.set i ((g.getD i []).set j true)
def stG (k i : Nat) (g : List (List Bool)) (j : Nat) : List (List Bool) := if at2 g i k && at2 g k j then setBit g i j else g
def clJ (k i : Nat) (g : List (List Bool)) (r : List Nat) : List (List Bool) := r.foldl (stG k i) g
def clI (n k : Nat) (g : List (List Bool)) (r : List Nat) : List (List Bool) := r.foldl (fun g i => clJ k i g (List.range n)) g
def clK (n : Nat) (g : List (List Bool)) (r : List Nat) : List (List Bool) := r.foldl (fun g k => clI n k g (List.range n)) g
theorem drop_rng {m j : Nat} (h : j < m) : (List.range m).drop j = j :: (List.range m).drop (j + 1) := by
  rw [List.drop_eq_getElem_cons (by simpa using h)]; simp
theorem drop_end {m j : Nat} (h : ¬ j < m) : (List.range m).drop j = [] := List.drop_eq_nil_of_le (by simpa using Nat.le_of_not_lt h)
theorem setBit_of {g : List (List Bool)} {i j : Nat} {r : List Bool} (h : g[i]? = some r) : setBit g i j = g.set i (r.set j true) := by simp [setBit, List.getD_eq_getElem?_getD, h]
theorem sh_setBit {m i j : Nat} {g : List (List Bool)} (h : Sh m g) (hi : i < m) : Sh m (setBit g i j) := by
  obtain ⟨r, hr, hl⟩ := sh_row h hi
  rw [setBit_of hr]; exact sh_set h (by simpa using hl)
theorem sh_stG {m k i j : Nat} {g : List (List Bool)} (h : Sh m g) (hi : i < m) : Sh m (stG k i g j) := by
  unfold stG; split; exact sh_setBit h hi; exact h
theorem inv_J {m k i j : Nat} {g G R : List (List Bool)} (hG : G = stG k i g j) (hs : Sh m g) (hi : i < m) (hj : j < m) (h : clJ k i g ((List.range m).drop j) = R) : j + 1 ≤ m ∧ Sh m G ∧ clJ k i G ((List.range m).drop (j + 1)) = R := by
  subst hG
  rw [drop_rng hj] at h
  exact ⟨hj, sh_stG hs hi, h⟩
theorem end_J {m k i j : Nat} {g R : List (List Bool)} (hj : ¬ j < m) (h : clJ k i g ((List.range m).drop j) = R) : g = R := by rw [drop_end hj] at h; exact h
theorem end_I {m n k i : Nat} {g R : List (List Bool)} (hj : ¬ i < m) (h : clI n k g ((List.range m).drop i) = R) : g = R := by rw [drop_end hj] at h; exact h
theorem end_K {m n k : Nat} {g R : List (List Bool)} (hj : ¬ k < m) (h : clK n g ((List.range m).drop k) = R) : g = R := by rw [drop_end hj] at h; exact h
theorem nx_I {m n k i : Nat} {g R : List (List Bool)} (hj : i < m) (h : clI n k g ((List.range m).drop i) = R) : clI n k (clJ k i g (List.range n)) ((List.range m).drop (i + 1)) = R := by rw [drop_rng hj] at h; exact h
theorem nx_K {m n k : Nat} {g R : List (List Bool)} (hj : k < m) (h : clK n g ((List.range m).drop k) = R) : clK n (clI n k g (List.range n)) ((List.range m).drop (k + 1)) = R := by rw [drop_rng hj] at h; exact h
def prG (n : Int) : List Int → Option (Nat × Nat)
  | [a, b] => if 0 ≤ a ∧ a ≤ n - 1 then if 0 ≤ b ∧ b ≤ n - 1 then some (a.toNat, b.toNat) else none else none
  | _ => none
def addP (n : Int) : List (List Bool) → List (List Int) → Option (List (List Bool))
  | g, [] => some g
  | g, p :: ps => match prG n p with | some ab => addP n (setBit g ab.1 ab.2) ps | none => none
theorem pr_len {n : Int} {p : List Int} (h : p.length ≠ 2) : prG n p = none := by
  rcases p with _ | ⟨a, _ | ⟨b, _ | ⟨c, p⟩⟩⟩ <;> first | rfl | (simp at h)
theorem pr_two {p : List Int} (h : p.length = 2) : ∃ a b, p = [a, b] := by
  rcases p with _ | ⟨a, _ | ⟨b, _ | ⟨c, p⟩⟩⟩ <;> first | exact ⟨_, _, rfl⟩ | (simp at h)
theorem add_no {n : Int} {g : List (List Bool)} {p : List Int} {ps : List (List Int)} {R : Option (List (List Bool))} (h : addP n g (p :: ps) = R) (hp : prG n p = none) : R = none := by simp only [addP, hp] at h; exact h.symm
def orderOf (n : Int) (ps : List (List Int)) : Option (Int × List (List Bool)) :=
  if 1 ≤ n ∧ n ≤ 5 then (addP n (noOrd n.toNat) ps).bind fun g => if isOrder n (clK n.toNat g (List.range n.toNat)) = true then some (n, clK n.toNat g (List.range n.toNat)) else none else none
abbrev ordV (x : Option (Int × List (List Bool))) : V := match x with | some y => .tu [oOrder y, .b true] | none => .tu [.st [.i 0, .e0], .b false]
end Go.Am
