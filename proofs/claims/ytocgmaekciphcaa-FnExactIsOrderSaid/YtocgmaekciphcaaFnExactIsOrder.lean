/-
  The given law FnExactIsOrder holds for every input: it returns true, and its arguments read behind the call as they read before. No conditions.
-/
import Derived.Test.YtocgmaekciphcaaRows
import Derived.Test.YtocgmaekciphcaaFnExactIsOrderC
import Derived.ProofKit
set_option linter.all false
set_option maxHeartbeats 1000000
set_option synthInstance.maxSize 1000
namespace Go.Am
open Go.ChangeShapes Go.WideShapes Go.ChangeAt Go.RowKit
open Go.Proofs (Try.prog)
attribute [local irreducible] snapB roT giveB okD free packB
abbrev eBoolSS (x : List (List Bool)) : V := eL eB x
abbrev oBoolSS (x : List (List Bool)) : V := oL 1 oB x
abbrev eOrder (x : Int × (List (List Bool))) : V := .st [.i (x.1), eL eB (x.2)]
abbrev oOrder (x : Int × (List (List Bool))) : V := .st [.i (x.1), oL 1 oB (x.2)]
theorem sz_BoolS (l : List Bool) (n : Int) (h0 : 0 ≤ n) (h1 : n ≤ 1048576) (hl : Bnd.wf l) : ∃ t, CALLB Γ T 69 [] [eB l, .i n] = some (t, []) ∧ SzP l n t := by
  have hle := wf_len hl
  apply call_ex rfl rfl rfl rfl
  repeat' (first|refine st ?_|(refine Br.mk ?_ ?_<;>intro hc)|(refine An.mk ?_;intro x hx))
  · exact sz_neg
  · exact sz_ok ⟨by omega, fun _ _ => trivial⟩
theorem sz_BoolSS (l : List (List Bool)) (n : Int) (h0 : 0 ≤ n) (h1 : n ≤ 1048576) (hl : Bnd.wf l) : ∃ t, CALLB Γ T 40 [] [eBoolSS l, .i n] = some (t, []) ∧ SzP l n t := by
  have hle := wf_len hl
  apply call_ex rfl rfl rfl rfl
  repeat' (first|refine st ?_|(refine Br.mk ?_ ?_<;>intro hc)|(refine An.mk ?_;intro x hx))
  · exact sz_neg
  refine wp_eachI (l) (fun _ _ => ()) (fun i (g : Int) => ⟨envA [(0, eBoolSS l), (1, .i g), (5, .i (i : Nat))], heapA [], 0, false⟩) (n - l.length) (()) (fun i (g : Int) => 0 ≤ g ∧ g ≤ n ∧ l.length ≤ 1048576 ∧ ∀ x ∈ l.take i, Bnd.ok x) nm ?_ ?_ ?_ ?_
  · rfl
  · exact ⟨by omega, by omega, by omega, take_nil⟩
  · intro i g x hi hx hm _ hI
    obtain ⟨t, hk, m, rfl, hm'⟩ := sz_BoolS x g (by omega) (by omega) (wf_mem hl hm)
    repeat' (first|refine st ?_|(apply i_ca;first|refine c0 (hk) ?_)|(refine Br.mk ?_ ?_<;>intro hc)|(refine An.mk ?_;intro x hx))
    · exact sz_neg
    · have hm2 := hm'.resolve_left (by omega)
      exact ei_n m rfl ⟨hm2.2.1, by omega, hI.2.2.1, take_all hI.2.2.2 hx hm2.1⟩ nm
  · intro g _ hI
    repeat' (first|refine st ?_|(refine Br.mk ?_ ?_<;>intro hc)|(refine An.mk ?_;intro x hx))
    exact sz_ok ⟨by omega, take_end hI.2.2.2⟩ hI.1 hI.2.1
theorem sz_Order (l : Int × (List (List Bool))) (n : Int) (h0 : 0 ≤ n) (h1 : n ≤ 1048576) (hl : Bnd.wf l) : ∃ t, CALLB Γ T 9 [] [eOrder l, .i n] = some (t, []) ∧ SzP l n t := by
  apply call_ex rfl rfl rfl rfl
  obtain ⟨t1, hk1, m1, rfl, h1_⟩ := sz_BoolSS (l.2) n (by omega) (by omega) (hl.2)
  repeat' (first|refine st ?_|(apply i_ca;first|refine c0 (hk1) ?_)|(refine Br.mk ?_ ?_<;>intro hc)|(refine An.mk ?_;intro x hx))
  · exact sz_neg
  have h1' := h1_.resolve_left (by omega)
  repeat' (first|refine st ?_|(refine Br.mk ?_ ?_<;>intro hc)|(refine An.mk ?_;intro x hx))
  exact sz_ok (⟨trivial, h1'.1⟩)
theorem eq_BoolS (a b : List Bool) (ha : Bnd.ok a) : CALLB Γ T 71 [] [eB a, eB b] = some (.b (decide (a = b)), []) := by
  have hle := ok_len ha
  apply call_ro' rfl rfl rfl rfl
  repeat' (first|refine st ?_|(refine Br.mk ?_ ?_<;>intro hc)|(refine An.mk ?_;intro x hx))
  · exact (decide_eq_false (by rintro rfl; omega)).symm
  refine wp_eachI (a) (fun _ _ => ()) (fun i (_ : Unit) => ⟨envA [(0, eB a), (1, eB b), (5, .i (i : Nat))], heapA [], 0, false⟩) (()) (()) (fun i (_ : Unit) => a.take i = b.take i) nm ?_ ?_ ?_ ?_
  · rfl
  · rfl
  · intro i g x hi hx hm _ hI
    obtain ⟨y, hy⟩ := cell_of (r := b) (j := i) (by omega)
    repeat' (first|refine st ?_|(refine Br.mk ?_ ?_<;>intro hc)|(refine An.mk ?_;intro x hx))
    · exact (decide_eq_false (ne_of_at hx hy (by assumption))).symm
    · exact ei_n () rfl (take_eq hI hx hy (by assumption)) nm
  · intro g _ hI
    repeat' (first|refine st ?_|(refine Br.mk ?_ ?_<;>intro hc)|(refine An.mk ?_;intro x hx))
    exact (decide_eq_true (eq_of_take hI (by omega))).symm
theorem eq_BoolSS (a b : List (List Bool)) (ha : Bnd.ok a) : CALLB Γ T 45 [] [eBoolSS a, eBoolSS b] = some (.b (decide (a = b)), []) := by
  have hle := ok_len ha
  apply call_ro' rfl rfl rfl rfl
  repeat' (first|refine st ?_|(refine Br.mk ?_ ?_<;>intro hc)|(refine An.mk ?_;intro x hx))
  · exact (decide_eq_false (by rintro rfl; omega)).symm
  refine wp_eachI (a) (fun _ _ => ()) (fun i (_ : Unit) => ⟨envA [(0, eBoolSS a), (1, eBoolSS b), (5, .i (i : Nat))], heapA [], 0, false⟩) (()) (()) (fun i (_ : Unit) => a.take i = b.take i) nm ?_ ?_ ?_ ?_
  · rfl
  · rfl
  · intro i g x hi hx hm _ hI
    obtain ⟨y, hy⟩ := cell_of (r := b) (j := i) (by omega)
    repeat' (first|refine st ?_|(apply i_ca;first|(apply i_f 71;refine c0 (eq_BoolS x y (ok_mem ha hm)) ?_))|(refine Br.mk ?_ ?_<;>intro hc)|(refine An.mk ?_;intro x hx))
    · exact (decide_eq_false (ne_of_at hx hy (by assumption))).symm
    · exact ei_n () rfl (take_eq hI hx hy (by assumption)) nm
  · intro g _ hI
    repeat' (first|refine st ?_|(refine Br.mk ?_ ?_<;>intro hc)|(refine An.mk ?_;intro x hx))
    exact (decide_eq_true (eq_of_take hI (by omega))).symm
theorem eq_Order (a b : Int × (List (List Bool))) (ha : Bnd.ok a) : CALLB Γ T 13 [] [eOrder a, eOrder b] = some (.b (decide (a = b)), []) := by
  apply call_ro' rfl rfl rfl rfl
  repeat' (first|refine st ?_|(apply i_ca;first|(apply i_f 45;refine c0 (eq_BoolSS _ _ (ha.2)) ?_))|(refine Br.mk ?_ ?_<;>intro hc)|(refine An.mk ?_;intro x hx))
  all_goals obtain ⟨a0, a1⟩ := a; obtain ⟨b0, b1⟩ := b; simp_all [Prod.ext_iff]
theorem to_BoolS (l : List Bool) (hl : Bnd.ok l) : CALLB Γ T 70 [] [eB l] = some (oB l, []) := by
  have hle := ok_len hl
  apply call_ro' rfl rfl rfl rfl
  repeat' (first|refine st ?_|(refine Br.mk ?_ ?_<;>intro hc)|(refine An.mk ?_;intro x hx))
  refine wp_each (l) (fun _ _ => ()) (fun i (_ : Unit) => ⟨envA [(0, eB l), (3, .hs 0 0 l.length l.length), (4, .i (i : Nat))], heapA [some ⟨1, (l.take i).map V.b ++ List.replicate (l.length - i) (.im (.bool false)), false⟩], 1, false⟩) (()) (()) nm ?_ ?_ ?_
  · rfl
  · intro i g x hi hx hm _
    repeat' (first|refine st ?_|(refine Br.mk ?_ ?_<;>intro hc)|(refine An.mk ?_;intro x hx))
    exact ea_n () rfl nm
  · intro g _
    rw [fill_full]
    repeat' (first|refine st ?_|(refine Br.mk ?_ ?_<;>intro hc)|(refine An.mk ?_;intro x hx))
    rfl
theorem to_BoolSS (l : List (List Bool)) (hl : Bnd.ok l) : CALLB Γ T 41 [] [eBoolSS l] = some (oBoolSS l, []) := by
  have hle := ok_len hl
  apply call_ro' rfl rfl rfl rfl
  repeat' (first|refine st ?_|(refine Br.mk ?_ ?_<;>intro hc)|(refine An.mk ?_;intro x hx))
  refine wp_each (l) (fun _ _ => ()) (fun i (_ : Unit) => ⟨envA [(0, eBoolSS l), (3, .hs 0 0 l.length l.length), (4, .i (i : Nat))], heapA [some ⟨1, (l.take i).map oB ++ List.replicate (l.length - i) (.e0), false⟩], 1, false⟩) (()) (()) nm ?_ ?_ ?_
  · rfl
  · intro i g x hi hx hm _
    repeat' (first|refine st ?_|(apply i_ca;first|(apply i_f 70;refine c0 (to_BoolS x (ok_mem hl hm)) ?_))|(refine Br.mk ?_ ?_<;>intro hc)|(refine An.mk ?_;intro x hx))
    exact ea_n () rfl nm
  · intro g _
    rw [fill_full]
    repeat' (first|refine st ?_|(refine Br.mk ?_ ?_<;>intro hc)|(refine An.mk ?_;intro x hx))
    rfl
theorem to_Order (l : Int × (List (List Bool))) (hl : Bnd.ok l) : CALLB Γ T 11 [] [eOrder l] = some (oOrder l, []) := by
  apply call_ro' rfl rfl rfl rfl
  repeat' (first|refine st ?_|(apply i_ca;first|(apply i_f 41;refine c0 (to_BoolSS _ (hl.2)) ?_))|(refine Br.mk ?_ ?_<;>intro hc)|(refine An.mk ?_;intro x hx))
  exact ⟨rfl, ⟨rfl, trivial⟩⟩
theorem k_l1In (x a b : Int) : CALLB Γ T 46 [] [.i x, .i a, .i b] = some (.b (decide (a ≤ x ∧ x ≤ b)), []) := by
  apply call_ro' rfl rfl rfl rfl
  repeat' (first|refine st ?_|(refine Br.mk ?_ ?_<;>intro hc)|(refine An.mk ?_;intro x hx))
  all_goals simp [*]
theorem k_within (x a b : Int) : CALLB Γ T 47 [] [.i x, .i a, .i b] = some (.b (decide (a ≤ x ∧ x ≤ b)), []) := by
  apply call_ro' rfl rfl rfl rfl
  repeat' (first|refine st ?_|(refine Br.mk ?_ ?_<;>intro hc)|(refine An.mk ?_;intro x hx))
  all_goals simp [*]
def at2 (a : List (List Bool)) (i j : Nat) : Bool := (a.getD i []).getD j false
def isOrder (n : Int) (a : List (List Bool)) : Bool :=
  decide (1 ≤ n ∧ n ≤ 5) && (decide ((a.length : Int) = n) && (a.all (fun r => decide ((r.length : Int) = n)) && (List.range a.length).all (fun i => (List.range a.length).all (fun k => (List.range a.length).all (fun m => !(at2 a i k && at2 a k m && !at2 a i m))) && !at2 a i i)))
theorem row_of {α : Type} {a : List (List α)} {n : Int} {i : Nat} (h : ∀ r ∈ a, (r.length : Int) = n) (hi : i < a.length) : ∃ r, a[i]? = some r ∧ r ∈ a ∧ (r.length : Int) = n :=
  ⟨a[i], List.getElem?_eq_getElem hi, List.getElem_mem hi, h _ (List.getElem_mem hi)⟩
abbrev eO (n : Int) (a : List (List Bool)) : V := .st [.i n, eL eB a]
theorem at2_of {a : List (List Bool)} {i j : Nat} {r : List Bool} {b : Bool} (h1 : a[i]? = some r) (h2 : r[j]? = some b) : at2 a i j = b := by simp [at2, List.getD_eq_getElem?_getD, h1, h2]
theorem k_IsOrder (n : Int) (a : List (List Bool)) (ha : Bnd.ok a) : CALLB Γ T 15 [] [eO n a] = some (.b (isOrder n a), []) := by
  have hle := ok_len ha
  apply call_ro' rfl rfl rfl rfl
  generalize hR : isOrder n a = R
  repeat' (first|refine st ?_|(apply i_ca;first|(apply i_f 47;refine c0 (k_within _ _ _) ?_))|(refine Br.mk ?_ ?_<;>intro hc)|(refine An.mk ?_;intro x hx))
  · simp [← hR, isOrder, hc]
  · simp [← hR, isOrder, hc]
  refine wp_eachI (a) (fun r _ => r.all (fun r => decide ((r.length : Int) = n)) && (List.range a.length).all (fun i => (List.range a.length).all (fun k => (List.range a.length).all (fun m => !(at2 a i k && at2 a k m && !at2 a i m))) && !at2 a i i)) (fun i (_ : Unit) => ⟨envA [(1, .hp 0 0), (21, eL eB a), (22, .i a.length), (23, .i (i : Nat))], heapA [some ⟨2, [.st [.i n, eL eB a]], false⟩], 1, false⟩) (()) (R) (fun i (_ : Unit) => ∀ r ∈ a.take i, (r.length : Int) = n) nm ?_ ?_ ?_ ?_
  · rw [← hR]; simp [isOrder, *]
  · exact take_nil
  · intro i g x hi hx hm hF hI
    have hxl := ok_len (ok_mem ha hm)
    repeat' (first|refine st ?_|(refine Br.mk ?_ ?_<;>intro hc)|(refine An.mk ?_;intro x hx))
    · rw [← hF]; simp [hc]
    · exact ei_n () (by rw [← hF]; simp [hc]) (take_all hI hx (by omega)) nm
  · intro g hF hI
    repeat' (first|refine st ?_|(refine Br.mk ?_ ?_<;>intro hc)|(refine An.mk ?_;intro x hx))
    have hal := take_end hI
    refine wp_upto (a.length) (fun r _ => r.all (fun i => (List.range a.length).all (fun k => (List.range a.length).all (fun m => !(at2 a i k && at2 a k m && !at2 a i m))) && !at2 a i i)) (fun i (_ : Unit) => ⟨envA [(1, .hp 0 0), (34, .i n), (35, .i (i : Nat))], heapA [some ⟨2, [.st [.i n, eL eB a]], false⟩], 1, false⟩) (()) (R) nm ?_ ?_ ?_
    · rw [← hF]; simp
    · intro i g hi hF
      repeat' (first|refine st ?_|(refine Br.mk ?_ ?_<;>intro hc)|(refine An.mk ?_;intro x hx))
      refine wp_upto (a.length) (fun r _ => r.all (fun k => (List.range a.length).all (fun m => !(at2 a i k && at2 a k m && !at2 a i m))) && (!at2 a i i && ((List.range a.length).drop (i + 1)).all (fun i => (List.range a.length).all (fun k => (List.range a.length).all (fun m => !(at2 a i k && at2 a k m && !at2 a i m))) && !at2 a i i))) (fun k (_ : Unit) => ⟨envA [(1, .hp 0 0), (5, .i (i : Nat)), (34, .i n), (35, .i (i : Nat)), (39, .i n), (40, .i (k : Nat))], heapA [some ⟨2, [.st [.i n, eL eB a]], false⟩], 1, false⟩) (()) (R) nm ?_ ?_ ?_
      · rw [← hF]; simp [Bool.and_assoc]
      · intro k g hk hF
        repeat' (first|refine st ?_|(refine Br.mk ?_ ?_<;>intro hc)|(refine An.mk ?_;intro x hx))
        generalize hX : (((List.range a.length).drop (k + 1)).all (fun k => (List.range a.length).all (fun m => !(at2 a i k && at2 a k m && !at2 a i m))) && (!at2 a i i && ((List.range a.length).drop (i + 1)).all (fun i => (List.range a.length).all (fun k => (List.range a.length).all (fun m => !(at2 a i k && at2 a k m && !at2 a i m))) && !at2 a i i))) = X at hF
        refine wp_upto (a.length) (fun r _ => r.all (fun m => !(at2 a i k && at2 a k m && !at2 a i m)) && X) (fun m (_ : Unit) => ⟨envA [(1, .hp 0 0), (5, .i (i : Nat)), (6, .i (k : Nat)), (34, .i n), (35, .i (i : Nat)), (39, .i n), (40, .i (k : Nat)), (44, .i n), (45, .i (m : Nat))], heapA [some ⟨2, [.st [.i n, eL eB a]], false⟩], 1, false⟩) (()) (R) nm ?_ ?_ ?_
        · rw [← hF, ← hX]; simp [Bool.and_assoc]
        · intro m g hm hF
          obtain ⟨ri, hri, _, hli⟩ := row_of hal hi
          obtain ⟨rk, hrk, _, hlk⟩ := row_of hal hk
          obtain ⟨b1, hb1⟩ := cell_of (r := ri) (j := k) (by omega)
          obtain ⟨b2, hb2⟩ := cell_of (r := rk) (j := m) (by omega)
          obtain ⟨b3, hb3⟩ := cell_of (r := ri) (j := m) (by omega)
          simp only [List.all_cons, at2_of hri hb1, at2_of hrk hb2, at2_of hri hb3] at hF
          repeat' (first|refine st ?_|(refine Br.mk ?_ ?_<;>intro hc)|(refine An.mk ?_;intro x hx))
          all_goals first | (rw [← hF]; simp [*]; done) | exact ea_n () (by rw [← hF]; simp [*, at2_of hri hb1]) nm
        · intro g hF
          repeat' (first|refine st ?_|(refine Br.mk ?_ ?_<;>intro hc)|(refine An.mk ?_;intro x hx))
          exact ea_n () (by rw [← hF, ← hX]; simp) nm
      · intro g hF
        obtain ⟨ri, hri, _, hli⟩ := row_of hal hi
        obtain ⟨b1, hb1⟩ := cell_of (r := ri) (j := i) (by omega)
        simp only [at2_of hri hb1] at hF
        repeat' (first|refine st ?_|(refine Br.mk ?_ ?_<;>intro hc)|(refine An.mk ?_;intro x hx))
        · rw [← hF]; simp [*]
        · exact ea_n () (by rw [← hF]; simp [*]) nm
    · intro g hF
      repeat' (first|refine st ?_|(refine Br.mk ?_ ?_<;>intro hc)|(refine An.mk ?_;intro x hx))
      rw [← hF]; rfl
theorem k_sIsOrder (n : Int) (a : List (List Bool)) (ha : Bnd.ok a) : CALLB Γ T 14 [] [eO n a] = some (.b (isOrder n a), []) := by
  have hle := ok_len ha
  apply call_ro' rfl rfl rfl rfl
  generalize hR : isOrder n a = R
  repeat' (first|refine st ?_|(apply i_ca;first|(apply i_f 46;refine c0 (k_l1In _ _ _) ?_))|(refine Br.mk ?_ ?_<;>intro hc)|(refine An.mk ?_;intro x hx))
  · simp [← hR, isOrder, hc]
  · simp [← hR, isOrder, hc]
  refine wp_eachI (a) (fun r _ => r.all (fun r => decide ((r.length : Int) = n)) && ((List.range' (a.length - r.length) r.length).all (fun i => !at2 a i i) && (List.range a.length).all (fun i => (List.range a.length).all (fun k => (List.range a.length).all (fun m => !(at2 a i k && at2 a k m && !at2 a i m)))))) (fun i (_ : Unit) => ⟨envA [(1, .hp 0 0), (3, .i (i : Nat))], heapA [some ⟨2, [.st [.i n, eL eB a]], false⟩], 1, false⟩) (()) (R) (fun i (_ : Unit) => ∀ r ∈ a.take i, (r.length : Int) = n) nm ?_ ?_ ?_ ?_
  · rw [← hR, Bool.eq_iff_iff]
    simp only [isOrder, Bool.and_eq_true, List.all_eq_true, Nat.sub_self, ← List.range_eq_range', decide_eq_true_eq]
    constructor
    · rintro ⟨h1, h2, h3⟩; exact ⟨by assumption, by assumption, h1, fun i hi => ⟨h3 i hi, h2 i hi⟩⟩
    · rintro ⟨_, _, h1, h2⟩; exact ⟨h1, fun i hi => (h2 i hi).2, fun i hi => (h2 i hi).1⟩
  · exact take_nil
  · intro i g x hi hx hm hF hI
    have hxl := ok_len (ok_mem ha hm)
    have hr : (List.range' (a.length - (x :: a.drop (i + 1)).length) (x :: a.drop (i + 1)).length) = i :: List.range' (a.length - (a.drop (i + 1)).length) (a.drop (i + 1)).length := by
      simp only [List.length_cons, List.length_drop]
      rw [List.range'_succ, show a.length - (a.length - (i + 1) + 1) = i by omega, show a.length - (a.length - (i + 1)) = i + 1 by omega]
    simp only [hr, List.all_cons] at hF
    by_cases hxn : (x.length : Int) = n
    · obtain ⟨b1, hb1⟩ := cell_of (r := x) (j := i) (by omega)
      simp only [at2_of hx hb1] at hF
      repeat' (first|refine st ?_|(refine Br.mk ?_ ?_<;>intro hc)|(refine An.mk ?_;intro x hx))
      · rw [← hF]; simp [*]
      · exact ei_n () (by rw [← hF]; simp [*]) (take_all hI hx (by omega)) nm
    · repeat' (first|refine st ?_|(refine Br.mk ?_ ?_<;>intro hc)|(refine An.mk ?_;intro x hx))
      rw [← hF]; simp [*]
  · intro g hF hI
    repeat' (first|refine st ?_|(refine Br.mk ?_ ?_<;>intro hc)|(refine An.mk ?_;intro x hx))
    have hal := take_end hI
    refine wp_upto (a.length) (fun r _ => r.all (fun i => (List.range a.length).all (fun k => (List.range a.length).all (fun m => !(at2 a i k && at2 a k m && !at2 a i m))))) (fun i (_ : Unit) => ⟨envA [(1, .hp 0 0), (4, .i (i : Nat))], heapA [some ⟨2, [.st [.i n, eL eB a]], false⟩], 1, false⟩) (()) (R) nm ?_ ?_ ?_
    · rw [← hF]; simp
    · intro i g hi hF
      repeat' (first|refine st ?_|(refine Br.mk ?_ ?_<;>intro hc)|(refine An.mk ?_;intro x hx))
      generalize hY : ((List.range a.length).drop (i + 1)).all (fun i => (List.range a.length).all (fun k => (List.range a.length).all (fun m => !(at2 a i k && at2 a k m && !at2 a i m)))) = Y at hF
      refine wp_upto (a.length) (fun r _ => r.all (fun k => (List.range a.length).all (fun m => !(at2 a i k && at2 a k m && !at2 a i m))) && Y) (fun k (_ : Unit) => ⟨envA [(1, .hp 0 0), (4, .i (i : Nat)), (5, .i (k : Nat))], heapA [some ⟨2, [.st [.i n, eL eB a]], false⟩], 1, false⟩) (()) (R) nm ?_ ?_ ?_
      · rw [← hF, ← hY]; rfl
      · intro k g hk hF
        repeat' (first|refine st ?_|(refine Br.mk ?_ ?_<;>intro hc)|(refine An.mk ?_;intro x hx))
        generalize hX : (((List.range a.length).drop (k + 1)).all (fun k => (List.range a.length).all (fun m => !(at2 a i k && at2 a k m && !at2 a i m))) && Y) = X
        refine wp_upto (a.length) (fun r _ => r.all (fun m => !(at2 a i k && at2 a k m && !at2 a i m)) && X) (fun m (_ : Unit) => ⟨envA [(1, .hp 0 0), (4, .i (i : Nat)), (5, .i (k : Nat)), (6, .i (m : Nat))], heapA [some ⟨2, [.st [.i n, eL eB a]], false⟩], 1, false⟩) (()) (R) nm ?_ ?_ ?_
        · rw [← hF, ← hX]; simp [Bool.and_assoc]
        · intro m g hm hF
          obtain ⟨ri, hri, _, hli⟩ := row_of hal hi
          obtain ⟨rk, hrk, _, hlk⟩ := row_of hal hk
          obtain ⟨b1, hb1⟩ := cell_of (r := ri) (j := k) (by omega)
          obtain ⟨b2, hb2⟩ := cell_of (r := rk) (j := m) (by omega)
          obtain ⟨b3, hb3⟩ := cell_of (r := ri) (j := m) (by omega)
          simp only [List.all_cons, at2_of hri hb1, at2_of hrk hb2, at2_of hri hb3] at hF
          repeat' (first|refine st ?_|(refine Br.mk ?_ ?_<;>intro hc)|(refine An.mk ?_;intro x hx))
          all_goals first | (rw [← hF]; simp [*]; done) | exact ea_n () (by rw [← hF]; simp [*, at2_of hri hb1]) nm
        · intro g hF
          repeat' (first|refine st ?_|(refine Br.mk ?_ ?_<;>intro hc)|(refine An.mk ?_;intro x hx))
          exact ea_n () (by rw [← hF, ← hX]; simp) nm
      · intro g hF
        repeat' (first|refine st ?_|(refine Br.mk ?_ ?_<;>intro hc)|(refine An.mk ?_;intro x hx))
        exact ea_n () (by rw [← hF, ← hY]; simp) nm
    · intro g hF
      repeat' (first|refine st ?_|(refine Br.mk ?_ ?_<;>intro hc)|(refine An.mk ?_;intro x hx))
      rw [← hF]; rfl
theorem law_FnExactIsOrder (a : Int × List (List Bool)) (ha : Bnd.wf a) : CALLB Γ T 4 [] [eOrder a] = some (.b true, []) := by
  obtain ⟨t0, hk0, m0, rfl, h0⟩ := sz_Order a 1048576 (by omega) (by omega) ha
  apply call_ro' rfl rfl rfl rfl
  repeat' (first|refine st ?_|(apply i_ca;first|(apply i_f 9;refine c0 (hk0) ?_))|(refine Br.mk ?_ ?_<;>intro hc)|(refine An.mk ?_;intro x hx))
  · rfl
  have h := (h0.resolve_left (by omega)).1
  repeat' (first|refine st ?_|(apply i_ca;first|(apply i_f 11;refine c0 (to_Order a h) ?_)|(apply i_f 14;refine c0 (k_sIsOrder _ _ h.2) ?_)|refine c0 (k_IsOrder _ _ h.2) ?_|(apply i_f 13;refine c0 (eq_Order a a h) ?_))|(refine Br.mk ?_ ?_<;>intro hc)|(refine An.mk ?_;intro x hx))
  all_goals first | rfl | exact absurd rfl hc
open Go.Proofs
theorem tb4 : Am.tab Try.prog mdT 4 = some c4.er ∧ c4.body.sok = true := ⟨tab_of Try.func4 (by kernel_rfl), by kernel_rfl⟩
theorem tb9 : Am.tab Try.prog mdT 9 = some c9.er ∧ c9.body.sok = true := ⟨tab_of Try.func9 (by kernel_rfl), by kernel_rfl⟩
theorem tb11 : Am.tab Try.prog mdT 11 = some c11.er ∧ c11.body.sok = true := ⟨tab_of Try.func11 (by kernel_rfl), by kernel_rfl⟩
theorem tb13 : Am.tab Try.prog mdT 13 = some c13.er ∧ c13.body.sok = true := ⟨tab_of Try.func13 (by kernel_rfl), by kernel_rfl⟩
theorem tb14 : Am.tab Try.prog mdT 14 = some c14.er ∧ c14.body.sok = true := ⟨tab_of Try.func14 (by kernel_rfl), by kernel_rfl⟩
theorem tb15 : Am.tab Try.prog mdT 15 = some c15.er ∧ c15.body.sok = true := ⟨tab_of Try.func15 (by kernel_rfl), by kernel_rfl⟩
theorem tb40 : Am.tab Try.prog mdT 40 = some c40.er ∧ c40.body.sok = true := ⟨tab_of Try.func40 (by kernel_rfl), by kernel_rfl⟩
theorem tb41 : Am.tab Try.prog mdT 41 = some c41.er ∧ c41.body.sok = true := ⟨tab_of Try.func41 (by kernel_rfl), by kernel_rfl⟩
theorem tb45 : Am.tab Try.prog mdT 45 = some c45.er ∧ c45.body.sok = true := ⟨tab_of Try.func45 (by kernel_rfl), by kernel_rfl⟩
theorem tb46 : Am.tab Try.prog mdT 46 = some c46.er ∧ c46.body.sok = true := ⟨tab_of Try.func46 (by kernel_rfl), by kernel_rfl⟩
theorem tb47 : Am.tab Try.prog mdT 47 = some c47.er ∧ c47.body.sok = true := ⟨tab_of Try.func47 (by kernel_rfl), by kernel_rfl⟩
theorem tb69 : Am.tab Try.prog mdT 69 = some c69.er ∧ c69.body.sok = true := ⟨tab_of Try.func69 (by kernel_rfl), by kernel_rfl⟩
theorem tb70 : Am.tab Try.prog mdT 70 = some c70.er ∧ c70.body.sok = true := ⟨tab_of Try.func70 (by kernel_rfl), by kernel_rfl⟩
theorem tb71 : Am.tab Try.prog mdT 71 = some c71.er ∧ c71.body.sok = true := ⟨tab_of Try.func71 (by kernel_rfl), by kernel_rfl⟩
theorem allT : AllT Try.prog mdT TL := ⟨tb4, tb9, tb11, tb13, tb14, tb15, tb40, tb41, tb45, tb46, tb47, tb69, tb70, tb71, trivial⟩
theorem mixed : Try.prog.follows .mixedOrders = true := by kernel_rfl
theorem envOK : EnvOK Try.prog Γ := envOK_of allT (fun f p ms args r us h => by cases h) mixed
theorem envB : EnvB Γ T := envB_of allT fun f p args r us h => by cases h
theorem own : ownKnob Try.prog.godebug = none := by kernel_rfl
theorem kids : Kids Try.prog (· < Try.prog.types.size) := kids_rows (by kernel_rfl) (by kernel_rfl)
theorem full : ∀ t e, t < Try.prog.types.size → Try.prog.underlying t = some (.slice e) → 0 < Try.prog.cellsOf e := slices_full_of _ (by kernel_rfl)
theorem ok24 : okT Try.prog 8 24 = true := by kernel_rfl
theorem lt24 : 24 < Try.prog.types.size := of_decide_eq_true (by kernel_rfl)
theorem iso (vs : List V) (h : TYs Try.prog 8 [24] vs) : IsoOK Try.prog 4 [] vs (.b true) [] := by
  obtain ⟨v0, w0, rfl, h0, rfl⟩ := h
  obtain ⟨a0, rfl, k0⟩ := (show Dec Try.prog 8 24 _ from dec_2 Try.underlying24 rfl (dec_i Try.underlying3) (dec_L Try.underlying22 (dec_L Try.underlying60 (dec_b Try.underlying4)))) _ h0
  exact CALLB_ok envOK envB rfl (by simp only [PurL]; exact ⟨Ror.pur _ h0.ror, trivial⟩) (law_FnExactIsOrder a0 k0)
open Go.Proofs.Ytocgmaekciphcaa in
set_option maxRecDepth 100000 in
theorem lifted (os : Os) (started : os.Started) (H : Type) (enc : TypeId × Value → H) :
    ReturnsInHanded {} Try.checked os 4 .any (Rows.fnExactIsOrderSpec.pre6 enc Try.prog Try.f4 Rows.fnExactIsOrderRow.domain false) (Rows.fnExactIsOrderSpec.post enc Try.prog Try.f4 false true false false) := by
  refine returnsInHanded_of_change (C := Try.checked) own started (by kernel_rfl) Try.func4
    (ChangeSpec.witness6 (enc := enc) (C := Try.checked) false ⟨#[], #[.agg #[.int .i64 0, .slice none 0 0]], []⟩ 8 (by kernel_rfl) (by kernel_rfl) (by kernel_rfl) (by kernel_rfl)) ?_
  intro W base args ds gs before hval hW hcnd _
  exact law_post (d := 8) (tb := 4) kids full hval hW rfl (fun ds hd => by
    match ds, hd with
    | [d0], _ => rfl) rfl Try.underlying4 (by
      intro t ht
      have : t = 24 := by simpa [Try.f4] using ht
      rcases this with rfl
      · exact ⟨ok24, lt24⟩) iso
end Go.Am
namespace Go.Proofs.Ytocgmaekciphcaa
open Go.Am in
theorem fnExactIsOrder_holds : Rows.FnExactIsOrderSaid :=
  OpenClaim.holds_of_wide 4 Try.f4 rfl rfl rfl rfl rfl rfl rfl ⟨rfl, rfl, rfl, rfl, rfl⟩ rfl rfl rfl rfl rfl (by kernel_rfl) Try.func4 (by kernel_rfl)
    (of_decide_eq_true (by kernel_rfl)) (by unfold Func.isWrapper; first | (rw [if_pos (by decide +kernel)]; kernel_rfl) | (rw [if_neg (by decide +kernel)]; exact ⟨rfl, rfl⟩))
    (fun os started H enc _ => Go.Am.lifted os started H enc)
#print axioms fnExactIsOrder_holds
end Go.Proofs.Ytocgmaekciphcaa
