/-
  The given law FnExactDisagreesAt holds for every input: it returns true, and its arguments read behind the call as they read before. No conditions.
-/
import Derived.Test.YthpaolkonlhjfaaRows
import Derived.Test.YthpaolkonlhjfaaFnExactDisagreesAtC
import Derived.ProofKit
set_option linter.all false
set_option maxHeartbeats 1000000
set_option synthInstance.maxSize 1000
namespace Go.Am
open Go.ChangeShapes Go.WideShapes Go.ChangeAt Go.RowKit
open Go.Proofs (Try.prog)
attribute [local irreducible] snapB roT giveB okD free packB
abbrev eIntSS (x : List (List Int)) : V := eL eI x
abbrev oIntSS (x : List (List Int)) : V := oL 1 oI x
abbrev eLink (x : Int × Int) : V := .st [.u (x.1), .u (x.2)]
abbrev oLink (x : Int × Int) : V := .st [.u (x.1), .u (x.2)]
abbrev eLinkS (x : List (Int × Int)) : V := eL eLink x
abbrev oLinkS (x : List (Int × Int)) : V := oL 2 oLink x
abbrev eCandidate (x : List (Int × Int)) : V := .st [eL eLink x]
abbrev oCandidate (x : List (Int × Int)) : V := .st [oL 2 oLink x]
abbrev eCandidateS (x : List (List (Int × Int))) : V := eL eCandidate x
abbrev oCandidateS (x : List (List (Int × Int))) : V := oL 1 oCandidate x
abbrev eTableau (x : ByteArray × (List ByteArray) × (List (List (Int × Int))) × (List (List Int))) : V := .st [.s (x.1), eS (x.2.1), eL eCandidate (x.2.2.1), eL eI (x.2.2.2)]
abbrev oTableau (x : ByteArray × (List ByteArray) × (List (List (Int × Int))) × (List (List Int))) : V := .st [.s (x.1), oS (x.2.1), oL 1 oCandidate (x.2.2.1), oL 1 oI (x.2.2.2)]
abbrev eTableauS (x : List (ByteArray × (List ByteArray) × (List (List (Int × Int))) × (List (List Int)))) : V := eL eTableau x
abbrev oTableauS (x : List (ByteArray × (List ByteArray) × (List (List (Int × Int))) × (List (List Int)))) : V := oL 4 oTableau x
theorem sz_IntS (l : List Int) (n : Int) (h0 : 0 ≤ n) (h1 : n ≤ 1048576) (hl : Bnd.wf l) : ∃ t, CALLB Γ T 85 [] [eI l, .i n] = some (t, []) ∧ SzP l n t := by
  have hle := wf_len hl
  apply call_ex rfl rfl rfl rfl
  repeat' (first|refine st ?_|(refine Br.mk ?_ ?_<;>intro hc)|(refine An.mk ?_;intro x hx))
  · exact sz_neg
  · exact sz_ok ⟨by omega, fun _ _ => trivial⟩
theorem sz_StringS (l : List ByteArray) (n : Int) (h0 : 0 ≤ n) (h1 : n ≤ 1048576) (hl : Bnd.wf l) : ∃ t, CALLB Γ T 36 [] [eS l, .i n] = some (t, []) ∧ SzP l n t := by
  have hle := wf_len hl
  apply call_ex rfl rfl rfl rfl
  repeat' (first|refine st ?_|(refine Br.mk ?_ ?_<;>intro hc)|(refine An.mk ?_;intro x hx))
  · exact sz_neg
  refine wp_eachI (l) (fun _ _ => ()) (fun i (g : Int) => ⟨envA [(0, eS l), (1, .i g), (5, .i (i : Nat))], heapA [], 0, false⟩) (n - l.length) (()) (fun i (g : Int) => 0 ≤ g ∧ g ≤ n ∧ l.length ≤ 1048576 ∧ ∀ x ∈ l.take i, Bnd.ok x) nm ?_ ?_ ?_ ?_
  · rfl
  · exact ⟨by omega, by omega, by omega, take_nil⟩
  · intro i g x hi hx hm _ hI
    have hxl : x.size ≤ 9223372036854775807 := wf_mem hl hm
    repeat' (first|refine st ?_|(refine Br.mk ?_ ?_<;>intro hc)|(refine An.mk ?_;intro x hx))
    · exact sz_neg
    · exact ei_n (g - x.size) rfl ⟨by omega, by omega, hI.2.2.1, take_all hI.2.2.2 hx (show x.size ≤ 2 ^ 32 by omega)⟩ nm
  · intro g _ hI
    repeat' (first|refine st ?_|(refine Br.mk ?_ ?_<;>intro hc)|(refine An.mk ?_;intro x hx))
    exact sz_ok ⟨by omega, take_end hI.2.2.2⟩ hI.1 hI.2.1
theorem sz_IntSS (l : List (List Int)) (n : Int) (h0 : 0 ≤ n) (h1 : n ≤ 1048576) (hl : Bnd.wf l) : ∃ t, CALLB Γ T 58 [] [eIntSS l, .i n] = some (t, []) ∧ SzP l n t := by
  have hle := wf_len hl
  apply call_ex rfl rfl rfl rfl
  repeat' (first|refine st ?_|(refine Br.mk ?_ ?_<;>intro hc)|(refine An.mk ?_;intro x hx))
  · exact sz_neg
  refine wp_eachI (l) (fun _ _ => ()) (fun i (g : Int) => ⟨envA [(0, eIntSS l), (1, .i g), (5, .i (i : Nat))], heapA [], 0, false⟩) (n - l.length) (()) (fun i (g : Int) => 0 ≤ g ∧ g ≤ n ∧ l.length ≤ 1048576 ∧ ∀ x ∈ l.take i, Bnd.ok x) nm ?_ ?_ ?_ ?_
  · rfl
  · exact ⟨by omega, by omega, by omega, take_nil⟩
  · intro i g x hi hx hm _ hI
    obtain ⟨t, hk, m, rfl, hm'⟩ := sz_IntS x g (by omega) (by omega) (wf_mem hl hm)
    repeat' (first|refine st ?_|(apply i_ca;first|refine c0 (hk) ?_)|(refine Br.mk ?_ ?_<;>intro hc)|(refine An.mk ?_;intro x hx))
    · exact sz_neg
    · have hm2 := hm'.resolve_left (by omega)
      exact ei_n m rfl ⟨hm2.2.1, by omega, hI.2.2.1, take_all hI.2.2.2 hx hm2.1⟩ nm
  · intro g _ hI
    repeat' (first|refine st ?_|(refine Br.mk ?_ ?_<;>intro hc)|(refine An.mk ?_;intro x hx))
    exact sz_ok ⟨by omega, take_end hI.2.2.2⟩ hI.1 hI.2.1
theorem sz_LinkS (l : List (Int × Int)) (n : Int) (h0 : 0 ≤ n) (h1 : n ≤ 1048576) (hl : Bnd.wf l) : ∃ t, CALLB Γ T 125 [] [eLinkS l, .i n] = some (t, []) ∧ SzP l n t := by
  have hle := wf_len hl
  apply call_ex rfl rfl rfl rfl
  repeat' (first|refine st ?_|(refine Br.mk ?_ ?_<;>intro hc)|(refine An.mk ?_;intro x hx))
  · exact sz_neg
  · exact sz_ok ⟨by omega, fun _ _ => ⟨trivial, trivial⟩⟩
theorem sz_Candidate (l : List (Int × Int)) (n : Int) (h0 : 0 ≤ n) (h1 : n ≤ 1048576) (hl : Bnd.wf l) : ∃ t, CALLB Γ T 114 [] [eCandidate l, .i n] = some (t, []) ∧ SzP l n t := by
  apply call_ex rfl rfl rfl rfl
  obtain ⟨t0, hk0, m0, rfl, h0_⟩ := sz_LinkS l n (by omega) (by omega) hl
  repeat' (first|refine st ?_|(apply i_ca;first|refine c0 (hk0) ?_)|(refine Br.mk ?_ ?_<;>intro hc)|(refine An.mk ?_;intro x hx))
  · exact sz_neg
  have h0' := h0_.resolve_left (by omega)
  repeat' (first|refine st ?_|(refine Br.mk ?_ ?_<;>intro hc)|(refine An.mk ?_;intro x hx))
  exact sz_ok (h0'.1)
theorem sz_CandidateS (l : List (List (Int × Int))) (n : Int) (h0 : 0 ≤ n) (h1 : n ≤ 1048576) (hl : Bnd.wf l) : ∃ t, CALLB Γ T 96 [] [eCandidateS l, .i n] = some (t, []) ∧ SzP l n t := by
  have hle := wf_len hl
  apply call_ex rfl rfl rfl rfl
  repeat' (first|refine st ?_|(refine Br.mk ?_ ?_<;>intro hc)|(refine An.mk ?_;intro x hx))
  · exact sz_neg
  refine wp_eachI (l) (fun _ _ => ()) (fun i (g : Int) => ⟨envA [(0, eCandidateS l), (1, .i g), (5, .i (i : Nat))], heapA [], 0, false⟩) (n - l.length) (()) (fun i (g : Int) => 0 ≤ g ∧ g ≤ n ∧ l.length ≤ 1048576 ∧ ∀ x ∈ l.take i, Bnd.ok x) nm ?_ ?_ ?_ ?_
  · rfl
  · exact ⟨by omega, by omega, by omega, take_nil⟩
  · intro i g x hi hx hm _ hI
    obtain ⟨t, hk, m, rfl, hm'⟩ := sz_Candidate x g (by omega) (by omega) (wf_mem hl hm)
    repeat' (first|refine st ?_|(apply i_ca;first|refine c0 (hk) ?_)|(refine Br.mk ?_ ?_<;>intro hc)|(refine An.mk ?_;intro x hx))
    · exact sz_neg
    · have hm2 := hm'.resolve_left (by omega)
      exact ei_n m rfl ⟨hm2.2.1, by omega, hI.2.2.1, take_all hI.2.2.2 hx hm2.1⟩ nm
  · intro g _ hI
    repeat' (first|refine st ?_|(refine Br.mk ?_ ?_<;>intro hc)|(refine An.mk ?_;intro x hx))
    exact sz_ok ⟨by omega, take_end hI.2.2.2⟩ hI.1 hI.2.1
theorem sz_Tableau (l : ByteArray × (List ByteArray) × (List (List (Int × Int))) × (List (List Int))) (n : Int) (h0 : 0 ≤ n) (h1 : n ≤ 1048576) (hl : Bnd.wf l) : ∃ t, CALLB Γ T 79 [] [eTableau l, .i n] = some (t, []) ∧ SzP l n t := by
  apply call_ex rfl rfl rfl rfl
  have hs0 : l.1.size ≤ 9223372036854775807 := hl.1
  repeat' (first|refine st ?_|(refine Br.mk ?_ ?_<;>intro hc)|(refine An.mk ?_;intro x hx))
  · exact sz_neg
  obtain ⟨t1, hk1, m1, rfl, h1_⟩ := sz_StringS (l.2.1) (n - l.1.size) (by omega) (by omega) (hl.2.1)
  repeat' (first|refine st ?_|(apply i_ca;first|refine c0 (hk1) ?_)|(refine Br.mk ?_ ?_<;>intro hc)|(refine An.mk ?_;intro x hx))
  · exact sz_neg
  have h1' := h1_.resolve_left (by omega)
  obtain ⟨t2, hk2, m2, rfl, h2_⟩ := sz_CandidateS (l.2.2.1) m1 (by omega) (by omega) (hl.2.2.1)
  repeat' (first|refine st ?_|(apply i_ca;first|refine c0 (hk2) ?_)|(refine Br.mk ?_ ?_<;>intro hc)|(refine An.mk ?_;intro x hx))
  · exact sz_neg
  have h2' := h2_.resolve_left (by omega)
  obtain ⟨t3, hk3, m3, rfl, h3_⟩ := sz_IntSS (l.2.2.2) m2 (by omega) (by omega) (hl.2.2.2)
  repeat' (first|refine st ?_|(apply i_ca;first|refine c0 (hk3) ?_)|(refine Br.mk ?_ ?_<;>intro hc)|(refine An.mk ?_;intro x hx))
  · exact sz_neg
  have h3' := h3_.resolve_left (by omega)
  repeat' (first|refine st ?_|(refine Br.mk ?_ ?_<;>intro hc)|(refine An.mk ?_;intro x hx))
  exact sz_ok (⟨(show ByteArray.size _ ≤ 2 ^ 32 by omega), ⟨h1'.1, ⟨h2'.1, h3'.1⟩⟩⟩)
theorem sz_TableauS (l : List (ByteArray × (List ByteArray) × (List (List (Int × Int))) × (List (List Int)))) (n : Int) (h0 : 0 ≤ n) (h1 : n ≤ 1048576) (hl : Bnd.wf l) : ∃ t, CALLB Γ T 35 [] [eTableauS l, .i n] = some (t, []) ∧ SzP l n t := by
  have hle := wf_len hl
  apply call_ex rfl rfl rfl rfl
  repeat' (first|refine st ?_|(refine Br.mk ?_ ?_<;>intro hc)|(refine An.mk ?_;intro x hx))
  · exact sz_neg
  refine wp_eachI (l) (fun _ _ => ()) (fun i (g : Int) => ⟨envA [(0, eTableauS l), (1, .i g), (5, .i (i : Nat))], heapA [], 0, false⟩) (n - l.length) (()) (fun i (g : Int) => 0 ≤ g ∧ g ≤ n ∧ l.length ≤ 1048576 ∧ ∀ x ∈ l.take i, Bnd.ok x) nm ?_ ?_ ?_ ?_
  · rfl
  · exact ⟨by omega, by omega, by omega, take_nil⟩
  · intro i g x hi hx hm _ hI
    obtain ⟨t, hk, m, rfl, hm'⟩ := sz_Tableau x g (by omega) (by omega) (wf_mem hl hm)
    repeat' (first|refine st ?_|(apply i_ca;first|refine c0 (hk) ?_)|(refine Br.mk ?_ ?_<;>intro hc)|(refine An.mk ?_;intro x hx))
    · exact sz_neg
    · have hm2 := hm'.resolve_left (by omega)
      exact ei_n m rfl ⟨hm2.2.1, by omega, hI.2.2.1, take_all hI.2.2.2 hx hm2.1⟩ nm
  · intro g _ hI
    repeat' (first|refine st ?_|(refine Br.mk ?_ ?_<;>intro hc)|(refine An.mk ?_;intro x hx))
    exact sz_ok ⟨by omega, take_end hI.2.2.2⟩ hI.1 hI.2.1
theorem eq_IntS (a b : List Int) (ha : Bnd.ok a) : CALLB Γ T 45 [] [eI a, eI b] = some (.b (decide (a = b)), []) := by
  have hle := ok_len ha
  apply call_ro' rfl rfl rfl rfl
  repeat' (first|refine st ?_|(refine Br.mk ?_ ?_<;>intro hc)|(refine An.mk ?_;intro x hx))
  · exact (decide_eq_false (by rintro rfl; omega)).symm
  refine wp_eachI (a) (fun _ _ => ()) (fun i (_ : Unit) => ⟨envA [(0, eI a), (1, eI b), (5, .i (i : Nat))], heapA [], 0, false⟩) (()) (()) (fun i (_ : Unit) => a.take i = b.take i) nm ?_ ?_ ?_ ?_
  · rfl
  · rfl
  · intro i g x hi hx hm _ hI
    obtain ⟨y, hy⟩ := cell_of (r := b) (j := i) (by omega)
    repeat' (first|refine st ?_|(refine Br.mk ?_ ?_<;>intro hc)|(refine An.mk ?_;intro x hx))
    · exact (decide_eq_false (ne_of_at hx hy (by assumption))).symm
    · exact ei_n () rfl (take_eq hI hx hy (by assumption)) nm
  · intro g _ hI
    repeat' (first|refine st ?_|(refine Br.mk ?_ ?_<;>intro hc)|(refine An.mk ?_;intro x hx))
    exact (decide_eq_true (eq_of_take hI (by omega))).symm
theorem eq_StringS (a b : List ByteArray) (ha : Bnd.ok a) : CALLB Γ T 42 [] [eS a, eS b] = some (.b (decide (a = b)), []) := by
  have hle := ok_len ha
  apply call_ro' rfl rfl rfl rfl
  repeat' (first|refine st ?_|(refine Br.mk ?_ ?_<;>intro hc)|(refine An.mk ?_;intro x hx))
  · exact (decide_eq_false (by rintro rfl; omega)).symm
  refine wp_eachI (a) (fun _ _ => ()) (fun i (_ : Unit) => ⟨envA [(0, eS a), (1, eS b), (5, .i (i : Nat))], heapA [], 0, false⟩) (()) (()) (fun i (_ : Unit) => a.take i = b.take i) nm ?_ ?_ ?_ ?_
  · rfl
  · rfl
  · intro i g x hi hx hm _ hI
    obtain ⟨y, hy⟩ := cell_of (r := b) (j := i) (by omega)
    repeat' (first|refine st ?_|(refine Br.mk ?_ ?_<;>intro hc)|(refine An.mk ?_;intro x hx))
    · exact (decide_eq_false (ne_of_at hx hy (by assumption))).symm
    · exact ei_n () rfl (take_eq hI hx hy (by assumption)) nm
  · intro g _ hI
    repeat' (first|refine st ?_|(refine Br.mk ?_ ?_<;>intro hc)|(refine An.mk ?_;intro x hx))
    exact (decide_eq_true (eq_of_take hI (by omega))).symm
theorem eq_IntSS (a b : List (List Int)) (ha : Bnd.ok a) : CALLB Γ T 51 [] [eIntSS a, eIntSS b] = some (.b (decide (a = b)), []) := by
  have hle := ok_len ha
  apply call_ro' rfl rfl rfl rfl
  repeat' (first|refine st ?_|(refine Br.mk ?_ ?_<;>intro hc)|(refine An.mk ?_;intro x hx))
  · exact (decide_eq_false (by rintro rfl; omega)).symm
  refine wp_eachI (a) (fun _ _ => ()) (fun i (_ : Unit) => ⟨envA [(0, eIntSS a), (1, eIntSS b), (5, .i (i : Nat))], heapA [], 0, false⟩) (()) (()) (fun i (_ : Unit) => a.take i = b.take i) nm ?_ ?_ ?_ ?_
  · rfl
  · rfl
  · intro i g x hi hx hm _ hI
    obtain ⟨y, hy⟩ := cell_of (r := b) (j := i) (by omega)
    repeat' (first|refine st ?_|(apply i_ca;first|(apply i_f 45;refine c0 (eq_IntS x y (ok_mem ha hm)) ?_))|(refine Br.mk ?_ ?_<;>intro hc)|(refine An.mk ?_;intro x hx))
    · exact (decide_eq_false (ne_of_at hx hy (by assumption))).symm
    · exact ei_n () rfl (take_eq hI hx hy (by assumption)) nm
  · intro g _ hI
    repeat' (first|refine st ?_|(refine Br.mk ?_ ?_<;>intro hc)|(refine An.mk ?_;intro x hx))
    exact (decide_eq_true (eq_of_take hI (by omega))).symm
theorem eq_Link (a b : Int × Int) (ha : Bnd.ok a) : CALLB Γ T 133 [] [eLink a, eLink b] = some (.b (decide (a = b)), []) := by
  apply call_ro' rfl rfl rfl rfl
  repeat' (first|refine st ?_|(refine Br.mk ?_ ?_<;>intro hc)|(refine An.mk ?_;intro x hx))
  all_goals obtain ⟨a0, a1⟩ := a; obtain ⟨b0, b1⟩ := b; simp_all [Prod.ext_iff]
theorem eq_LinkS (a b : List (Int × Int)) (ha : Bnd.ok a) : CALLB Γ T 127 [] [eLinkS a, eLinkS b] = some (.b (decide (a = b)), []) := by
  have hle := ok_len ha
  apply call_ro' rfl rfl rfl rfl
  repeat' (first|refine st ?_|(refine Br.mk ?_ ?_<;>intro hc)|(refine An.mk ?_;intro x hx))
  · exact (decide_eq_false (by rintro rfl; omega)).symm
  refine wp_eachI (a) (fun _ _ => ()) (fun i (_ : Unit) => ⟨envA [(0, eLinkS a), (1, eLinkS b), (5, .i (i : Nat))], heapA [], 0, false⟩) (()) (()) (fun i (_ : Unit) => a.take i = b.take i) nm ?_ ?_ ?_ ?_
  · rfl
  · rfl
  · intro i g x hi hx hm _ hI
    obtain ⟨y, hy⟩ := cell_of (r := b) (j := i) (by omega)
    repeat' (first|refine st ?_|(apply i_ca;first|(apply i_f 133;refine c0 (eq_Link x y (ok_mem ha hm)) ?_))|(refine Br.mk ?_ ?_<;>intro hc)|(refine An.mk ?_;intro x hx))
    · exact (decide_eq_false (ne_of_at hx hy (by assumption))).symm
    · exact ei_n () rfl (take_eq hI hx hy (by assumption)) nm
  · intro g _ hI
    repeat' (first|refine st ?_|(refine Br.mk ?_ ?_<;>intro hc)|(refine An.mk ?_;intro x hx))
    exact (decide_eq_true (eq_of_take hI (by omega))).symm
theorem eq_Candidate (a b : List (Int × Int)) (ha : Bnd.ok a) : CALLB Γ T 116 [] [eCandidate a, eCandidate b] = some (.b (decide (a = b)), []) := by
  apply call_ro' rfl rfl rfl rfl
  repeat' (first|refine st ?_|(apply i_ca;first|(apply i_f 127;refine c0 (eq_LinkS _ _ ha) ?_))|(refine Br.mk ?_ ?_<;>intro hc)|(refine An.mk ?_;intro x hx))
  · exact (decide_eq_false (by assumption)).symm
  · exact (decide_eq_true (by assumption)).symm
theorem eq_CandidateS (a b : List (List (Int × Int))) (ha : Bnd.ok a) : CALLB Γ T 98 [] [eCandidateS a, eCandidateS b] = some (.b (decide (a = b)), []) := by
  have hle := ok_len ha
  apply call_ro' rfl rfl rfl rfl
  repeat' (first|refine st ?_|(refine Br.mk ?_ ?_<;>intro hc)|(refine An.mk ?_;intro x hx))
  · exact (decide_eq_false (by rintro rfl; omega)).symm
  refine wp_eachI (a) (fun _ _ => ()) (fun i (_ : Unit) => ⟨envA [(0, eCandidateS a), (1, eCandidateS b), (5, .i (i : Nat))], heapA [], 0, false⟩) (()) (()) (fun i (_ : Unit) => a.take i = b.take i) nm ?_ ?_ ?_ ?_
  · rfl
  · rfl
  · intro i g x hi hx hm _ hI
    obtain ⟨y, hy⟩ := cell_of (r := b) (j := i) (by omega)
    repeat' (first|refine st ?_|(apply i_ca;first|(apply i_f 116;refine c0 (eq_Candidate x y (ok_mem ha hm)) ?_))|(refine Br.mk ?_ ?_<;>intro hc)|(refine An.mk ?_;intro x hx))
    · exact (decide_eq_false (ne_of_at hx hy (by assumption))).symm
    · exact ei_n () rfl (take_eq hI hx hy (by assumption)) nm
  · intro g _ hI
    repeat' (first|refine st ?_|(refine Br.mk ?_ ?_<;>intro hc)|(refine An.mk ?_;intro x hx))
    exact (decide_eq_true (eq_of_take hI (by omega))).symm
theorem eq_Tableau (a b : ByteArray × (List ByteArray) × (List (List (Int × Int))) × (List (List Int))) (ha : Bnd.ok a) : CALLB Γ T 81 [] [eTableau a, eTableau b] = some (.b (decide (a = b)), []) := by
  apply call_ro' rfl rfl rfl rfl
  repeat' (first|refine st ?_|(apply i_ca;first|(apply i_f 42;refine c0 (eq_StringS _ _ (ha.2.1)) ?_)|(apply i_f 98;refine c0 (eq_CandidateS _ _ (ha.2.2.1)) ?_)|(apply i_f 51;refine c0 (eq_IntSS _ _ (ha.2.2.2)) ?_))|(refine Br.mk ?_ ?_<;>intro hc)|(refine An.mk ?_;intro x hx))
  all_goals obtain ⟨a0, a1, a2, a3⟩ := a; obtain ⟨b0, b1, b2, b3⟩ := b; simp_all [Prod.ext_iff]
theorem eq_TableauS (a b : List (ByteArray × (List ByteArray) × (List (List (Int × Int))) × (List (List Int)))) (ha : Bnd.ok a) : CALLB Γ T 41 [] [eTableauS a, eTableauS b] = some (.b (decide (a = b)), []) := by
  have hle := ok_len ha
  apply call_ro' rfl rfl rfl rfl
  repeat' (first|refine st ?_|(refine Br.mk ?_ ?_<;>intro hc)|(refine An.mk ?_;intro x hx))
  · exact (decide_eq_false (by rintro rfl; omega)).symm
  refine wp_eachI (a) (fun _ _ => ()) (fun i (_ : Unit) => ⟨envA [(0, eTableauS a), (1, eTableauS b), (5, .i (i : Nat))], heapA [], 0, false⟩) (()) (()) (fun i (_ : Unit) => a.take i = b.take i) nm ?_ ?_ ?_ ?_
  · rfl
  · rfl
  · intro i g x hi hx hm _ hI
    obtain ⟨y, hy⟩ := cell_of (r := b) (j := i) (by omega)
    repeat' (first|refine st ?_|(apply i_ca;first|(apply i_f 81;refine c0 (eq_Tableau x y (ok_mem ha hm)) ?_))|(refine Br.mk ?_ ?_<;>intro hc)|(refine An.mk ?_;intro x hx))
    · exact (decide_eq_false (ne_of_at hx hy (by assumption))).symm
    · exact ei_n () rfl (take_eq hI hx hy (by assumption)) nm
  · intro g _ hI
    repeat' (first|refine st ?_|(refine Br.mk ?_ ?_<;>intro hc)|(refine An.mk ?_;intro x hx))
    exact (decide_eq_true (eq_of_take hI (by omega))).symm
theorem to_IntS (l : List Int) (hl : Bnd.ok l) : CALLB Γ T 54 [] [eI l] = some (oI l, []) := by
  have hle := ok_len hl
  apply call_ro' rfl rfl rfl rfl
  repeat' (first|refine st ?_|(refine Br.mk ?_ ?_<;>intro hc)|(refine An.mk ?_;intro x hx))
  refine wp_each (l) (fun _ _ => ()) (fun i (_ : Unit) => ⟨envA [(0, eI l), (3, .hs 0 0 l.length l.length), (4, .i (i : Nat))], heapA [some ⟨1, (l.take i).map V.i ++ List.replicate (l.length - i) (.im (.int .i64 0)), false⟩], 1, false⟩) (()) (()) nm ?_ ?_ ?_
  · rfl
  · intro i g x hi hx hm _
    repeat' (first|refine st ?_|(refine Br.mk ?_ ?_<;>intro hc)|(refine An.mk ?_;intro x hx))
    exact ea_n () rfl nm
  · intro g _
    rw [fill_full]
    repeat' (first|refine st ?_|(refine Br.mk ?_ ?_<;>intro hc)|(refine An.mk ?_;intro x hx))
    rfl
theorem to_StringS (l : List ByteArray) (hl : Bnd.ok l) : CALLB Γ T 39 [] [eS l] = some (oS l, []) := by
  have hle := ok_len hl
  apply call_ro' rfl rfl rfl rfl
  repeat' (first|refine st ?_|(refine Br.mk ?_ ?_<;>intro hc)|(refine An.mk ?_;intro x hx))
  refine wp_each (l) (fun _ _ => ()) (fun i (_ : Unit) => ⟨envA [(0, eS l), (3, .hs 0 0 l.length l.length), (4, .i (i : Nat))], heapA [some ⟨1, (l.take i).map V.s ++ List.replicate (l.length - i) (.im (.string ⟨#[]⟩)), false⟩], 1, false⟩) (()) (()) nm ?_ ?_ ?_
  · rfl
  · intro i g x hi hx hm _
    repeat' (first|refine st ?_|(refine Br.mk ?_ ?_<;>intro hc)|(refine An.mk ?_;intro x hx))
    exact ea_n () rfl nm
  · intro g _
    rw [fill_full]
    repeat' (first|refine st ?_|(refine Br.mk ?_ ?_<;>intro hc)|(refine An.mk ?_;intro x hx))
    rfl
theorem to_IntSS (l : List (List Int)) (hl : Bnd.ok l) : CALLB Γ T 60 [] [eIntSS l] = some (oIntSS l, []) := by
  have hle := ok_len hl
  apply call_ro' rfl rfl rfl rfl
  repeat' (first|refine st ?_|(refine Br.mk ?_ ?_<;>intro hc)|(refine An.mk ?_;intro x hx))
  refine wp_each (l) (fun _ _ => ()) (fun i (_ : Unit) => ⟨envA [(0, eIntSS l), (3, .hs 0 0 l.length l.length), (4, .i (i : Nat))], heapA [some ⟨1, (l.take i).map oI ++ List.replicate (l.length - i) (.e0), false⟩], 1, false⟩) (()) (()) nm ?_ ?_ ?_
  · rfl
  · intro i g x hi hx hm _
    repeat' (first|refine st ?_|(apply i_ca;first|(apply i_f 54;refine c0 (to_IntS x (ok_mem hl hm)) ?_))|(refine Br.mk ?_ ?_<;>intro hc)|(refine An.mk ?_;intro x hx))
    exact ea_n () rfl nm
  · intro g _
    rw [fill_full]
    repeat' (first|refine st ?_|(refine Br.mk ?_ ?_<;>intro hc)|(refine An.mk ?_;intro x hx))
    rfl
theorem to_Link (l : Int × Int) (hl : Bnd.ok l) : CALLB Γ T 132 [] [eLink l] = some (oLink l, []) := by
  apply call_ro' rfl rfl rfl rfl
  repeat' (first|refine st ?_|(refine Br.mk ?_ ?_<;>intro hc)|(refine An.mk ?_;intro x hx))
  exact ⟨rfl, ⟨rfl, trivial⟩⟩
theorem to_LinkS (l : List (Int × Int)) (hl : Bnd.ok l) : CALLB Γ T 126 [] [eLinkS l] = some (oLinkS l, []) := by
  have hle := ok_len hl
  apply call_ro' rfl rfl rfl rfl
  repeat' (first|refine st ?_|(refine Br.mk ?_ ?_<;>intro hc)|(refine An.mk ?_;intro x hx))
  refine wp_each (l) (fun _ _ => ()) (fun i (_ : Unit) => ⟨envA [(0, eLinkS l), (3, .hs 0 0 l.length l.length), (4, .i (i : Nat))], heapA [some ⟨2, (l.take i).map oLink ++ List.replicate (l.length - i) ((.st [.im (.int .u8 0), .im (.int .u8 0)])), false⟩], 1, false⟩) (()) (()) nm ?_ ?_ ?_
  · rfl
  · intro i g x hi hx hm _
    repeat' (first|refine st ?_|(apply i_ca;first|(apply i_f 132;refine c0 (to_Link x (ok_mem hl hm)) ?_))|(refine Br.mk ?_ ?_<;>intro hc)|(refine An.mk ?_;intro x hx))
    exact ea_n () rfl nm
  · intro g _
    rw [fill_full]
    repeat' (first|refine st ?_|(refine Br.mk ?_ ?_<;>intro hc)|(refine An.mk ?_;intro x hx))
    rfl
theorem to_Candidate (l : List (Int × Int)) (hl : Bnd.ok l) : CALLB Γ T 115 [] [eCandidate l] = some (oCandidate l, []) := by
  apply call_ro' rfl rfl rfl rfl
  repeat' (first|refine st ?_|(apply i_ca;first|(apply i_f 126;refine c0 (to_LinkS _ hl) ?_))|(refine Br.mk ?_ ?_<;>intro hc)|(refine An.mk ?_;intro x hx))
  exact ⟨rfl, trivial⟩
theorem to_CandidateS (l : List (List (Int × Int))) (hl : Bnd.ok l) : CALLB Γ T 97 [] [eCandidateS l] = some (oCandidateS l, []) := by
  have hle := ok_len hl
  apply call_ro' rfl rfl rfl rfl
  repeat' (first|refine st ?_|(refine Br.mk ?_ ?_<;>intro hc)|(refine An.mk ?_;intro x hx))
  refine wp_each (l) (fun _ _ => ()) (fun i (_ : Unit) => ⟨envA [(0, eCandidateS l), (3, .hs 0 0 l.length l.length), (4, .i (i : Nat))], heapA [some ⟨1, (l.take i).map oCandidate ++ List.replicate (l.length - i) ((.st [.e0])), false⟩], 1, false⟩) (()) (()) nm ?_ ?_ ?_
  · rfl
  · intro i g x hi hx hm _
    repeat' (first|refine st ?_|(apply i_ca;first|(apply i_f 115;refine c0 (to_Candidate x (ok_mem hl hm)) ?_))|(refine Br.mk ?_ ?_<;>intro hc)|(refine An.mk ?_;intro x hx))
    exact ea_n () rfl nm
  · intro g _
    rw [fill_full]
    repeat' (first|refine st ?_|(refine Br.mk ?_ ?_<;>intro hc)|(refine An.mk ?_;intro x hx))
    rfl
theorem to_Tableau (l : ByteArray × (List ByteArray) × (List (List (Int × Int))) × (List (List Int))) (hl : Bnd.ok l) : CALLB Γ T 80 [] [eTableau l] = some (oTableau l, []) := by
  apply call_ro' rfl rfl rfl rfl
  repeat' (first|refine st ?_|(apply i_ca;first|(apply i_f 39;refine c0 (to_StringS _ (hl.2.1)) ?_)|(apply i_f 97;refine c0 (to_CandidateS _ (hl.2.2.1)) ?_)|(apply i_f 60;refine c0 (to_IntSS _ (hl.2.2.2)) ?_))|(refine Br.mk ?_ ?_<;>intro hc)|(refine An.mk ?_;intro x hx))
  exact ⟨rfl, ⟨rfl, ⟨rfl, ⟨rfl, trivial⟩⟩⟩⟩
theorem to_TableauS (l : List (ByteArray × (List ByteArray) × (List (List (Int × Int))) × (List (List Int)))) (hl : Bnd.ok l) : CALLB Γ T 38 [] [eTableauS l] = some (oTableauS l, []) := by
  have hle := ok_len hl
  apply call_ro' rfl rfl rfl rfl
  repeat' (first|refine st ?_|(refine Br.mk ?_ ?_<;>intro hc)|(refine An.mk ?_;intro x hx))
  refine wp_each (l) (fun _ _ => ()) (fun i (_ : Unit) => ⟨envA [(0, eTableauS l), (3, .hs 0 0 l.length l.length), (4, .i (i : Nat))], heapA [some ⟨4, (l.take i).map oTableau ++ List.replicate (l.length - i) ((.st [.im (.string ⟨#[]⟩), .e0, .e0, .e0])), false⟩], 1, false⟩) (()) (()) nm ?_ ?_ ?_
  · rfl
  · intro i g x hi hx hm _
    repeat' (first|refine st ?_|(apply i_ca;first|(apply i_f 80;refine c0 (to_Tableau x (ok_mem hl hm)) ?_))|(refine Br.mk ?_ ?_<;>intro hc)|(refine An.mk ?_;intro x hx))
    exact ea_n () rfl nm
  · intro g _
    rw [fill_full]
    repeat' (first|refine st ?_|(refine Br.mk ?_ ?_<;>intro hc)|(refine An.mk ?_;intro x hx))
    rfl
def disFrom (a b : List ByteArray) : List Nat → Int
  | [] => -1
  | i :: r => if a[i]? = b[i]? then disFrom a b r else (i : Int)
def disAt (n : Nat) (a b : List ByteArray) : Int := disFrom a b (List.range (min (min n a.length) b.length))
theorem k_DisagreesAt (l : List (ByteArray × List ByteArray × List (List (Int × Int)) × List (List Int))) (a b : List ByteArray) (hl : Bnd.ok l) (ha : Bnd.ok a) (hb : Bnd.ok b) : CALLB Γ T 40 [] [eTableauS l, eS a, eS b] = some (.i (disAt l.length a b), []) := by
  have h1 := ok_len hl
  have h2 := ok_len ha
  have h3 := ok_len hb
  apply call_ro' rfl rfl rfl rfl
  repeat' (first|refine st ?_|(refine Br.mk ?_ ?_<;>intro hc)|(refine An.mk ?_;intro x hx))
  refine wp_upto (min (min l.length a.length) b.length) (fun r _ => disFrom a b r) (fun i (_ : Unit) => ⟨envA [(1, eS a), (2, eS b), (14, .i (min (min (l.length : Int) a.length) b.length)), (15, .i (i : Nat))], heapA [], 0, false⟩) (()) (disAt l.length a b) nm ?_ ?_ ?_
  · rfl
  · intro i g hi hF
    obtain ⟨x, hx⟩ := cell_of (r := a) (j := i) (by omega)
    obtain ⟨y, hy⟩ := cell_of (r := b) (j := i) (by omega)
    simp only [disFrom, hx, hy, Option.some.injEq] at hF
    repeat' (first|refine st ?_|(refine Br.mk ?_ ?_<;>intro hc)|(refine An.mk ?_;intro x hx))
    · rw [← hF, if_neg (by assumption)]
    · exact ea_n () (by rw [← hF, if_pos (by assumption)]) nm
  · intro g hF
    repeat' (first|refine st ?_|(refine Br.mk ?_ ?_<;>intro hc)|(refine An.mk ?_;intro x hx))
    rw [← hF]; rfl
theorem k_sDisagreesAt (l : List (ByteArray × List ByteArray × List (List (Int × Int)) × List (List Int))) (a b : List ByteArray) (hl : Bnd.ok l) (ha : Bnd.ok a) (hb : Bnd.ok b) : CALLB Γ T 37 [] [eTableauS l, eS a, eS b] = some (.i (disAt l.length a b), []) := by
  have h1 := ok_len hl
  have h2 := ok_len ha
  have h3 := ok_len hb
  apply call_ro' rfl rfl rfl rfl
  repeat' (first|refine st ?_|(refine Br.mk ?_ ?_<;>intro hc)|(refine An.mk ?_;intro x hx))
  refine wp_upto (min (min l.length a.length) b.length) (fun r _ => disFrom a b r) (fun i (_ : Unit) => ⟨envA [(0, eTableauS l), (1, eS a), (2, eS b), (7, .i (i : Nat))], heapA [], 0, false⟩) (()) (disAt l.length a b) nm ?_ ?_ ?_
  · rfl
  · intro i g hi hF
    obtain ⟨x, hx⟩ := cell_of (r := a) (j := i) (by omega)
    obtain ⟨y, hy⟩ := cell_of (r := b) (j := i) (by omega)
    simp only [disFrom, hx, hy, Option.some.injEq] at hF
    repeat' (first|refine st ?_|(refine Br.mk ?_ ?_<;>intro hc)|(refine An.mk ?_;intro x hx))
    · rw [← hF, if_neg (by assumption)]
    · exact ea_n () (by rw [← hF, if_pos (by assumption)]) nm
  · intro g hF
    repeat' (first|refine st ?_|(refine Br.mk ?_ ?_<;>intro hc)|(refine An.mk ?_;intro x hx))
    all_goals first | (rw [← hF]; rfl) | (exfalso; omega)
theorem law_FnExactDisagreesAt (l : List (ByteArray × List ByteArray × List (List (Int × Int)) × List (List Int))) (a b : List ByteArray) (hl : Bnd.wf l) (ha : Bnd.wf a) (hb : Bnd.wf b) : CALLB Γ T 5 [] [eTableauS l, eS a, eS b] = some (.b true, []) := by
  obtain ⟨t0, hk0, m0, rfl, h0⟩ := sz_TableauS l 1048576 (by omega) (by omega) hl
  apply call_ro' rfl rfl rfl rfl
  (try refine st ?_)
  refine c0 (hk0) ?_
  repeat' (first|refine st ?_|(refine Br.mk ?_ ?_<;>intro hc)|(refine An.mk ?_;intro x hx))
  · rfl
  have h := h0.resolve_left (by omega)
  obtain ⟨t1, hk1, m1, rfl, h1⟩ := sz_StringS a m0 (by omega) (by omega) ha
  (try refine st ?_)
  refine c0 (hk1) ?_
  repeat' (first|refine st ?_|(refine Br.mk ?_ ?_<;>intro hc)|(refine An.mk ?_;intro x hx))
  · rfl
  have g := h1.resolve_left (by omega)
  obtain ⟨t2, hk2, m2, rfl, h2⟩ := sz_StringS b m1 (by omega) (by omega) hb
  (try refine st ?_)
  refine c0 (hk2) ?_
  repeat' (first|refine st ?_|(refine Br.mk ?_ ?_<;>intro hc)|(refine An.mk ?_;intro x hx))
  · rfl
  have f := h2.resolve_left (by omega)
  repeat' (first|refine st ?_|(apply i_ca;first|(apply i_f 38;refine c0 (to_TableauS l h.1) ?_)|(apply i_f 39;refine c0 (to_StringS a g.1) ?_)|(apply i_f 39;refine c0 (to_StringS b f.1) ?_)|(apply i_f 37;refine c0 (k_sDisagreesAt _ _ _ h.1 g.1 f.1) ?_)|(apply i_f 40;refine c0 (k_DisagreesAt _ _ _ h.1 g.1 f.1) ?_)|(apply i_f 41;refine c0 (eq_TableauS l l h.1) ?_)|(apply i_f 42;refine c0 (eq_StringS a a g.1) ?_)|(apply i_f 42;refine c0 (eq_StringS b b f.1) ?_))|(refine Br.mk ?_ ?_<;>intro hc)|(refine An.mk ?_;intro x hx))
  all_goals first | rfl | exact absurd rfl hc
open Go.Proofs
theorem tb5 : Am.tab Try.prog mdT 5 = some c5.er ∧ c5.body.sok = true := ⟨tab_of Try.func5 (by kernel_rfl), by kernel_rfl⟩
theorem tb35 : Am.tab Try.prog mdT 35 = some c35.er ∧ c35.body.sok = true := ⟨tab_of Try.func35 (by kernel_rfl), by kernel_rfl⟩
theorem tb36 : Am.tab Try.prog mdT 36 = some c36.er ∧ c36.body.sok = true := ⟨tab_of Try.func36 (by kernel_rfl), by kernel_rfl⟩
theorem tb37 : Am.tab Try.prog mdT 37 = some c37.er ∧ c37.body.sok = true := ⟨tab_of Try.func37 (by kernel_rfl), by kernel_rfl⟩
theorem tb38 : Am.tab Try.prog mdT 38 = some c38.er ∧ c38.body.sok = true := ⟨tab_of Try.func38 (by kernel_rfl), by kernel_rfl⟩
theorem tb39 : Am.tab Try.prog mdT 39 = some c39.er ∧ c39.body.sok = true := ⟨tab_of Try.func39 (by kernel_rfl), by kernel_rfl⟩
theorem tb40 : Am.tab Try.prog mdT 40 = some c40.er ∧ c40.body.sok = true := ⟨tab_of Try.func40 (by kernel_rfl), by kernel_rfl⟩
theorem tb41 : Am.tab Try.prog mdT 41 = some c41.er ∧ c41.body.sok = true := ⟨tab_of Try.func41 (by kernel_rfl), by kernel_rfl⟩
theorem tb42 : Am.tab Try.prog mdT 42 = some c42.er ∧ c42.body.sok = true := ⟨tab_of Try.func42 (by kernel_rfl), by kernel_rfl⟩
theorem tb45 : Am.tab Try.prog mdT 45 = some c45.er ∧ c45.body.sok = true := ⟨tab_of Try.func45 (by kernel_rfl), by kernel_rfl⟩
theorem tb51 : Am.tab Try.prog mdT 51 = some c51.er ∧ c51.body.sok = true := ⟨tab_of Try.func51 (by kernel_rfl), by kernel_rfl⟩
theorem tb54 : Am.tab Try.prog mdT 54 = some c54.er ∧ c54.body.sok = true := ⟨tab_of Try.func54 (by kernel_rfl), by kernel_rfl⟩
theorem tb58 : Am.tab Try.prog mdT 58 = some c58.er ∧ c58.body.sok = true := ⟨tab_of Try.func58 (by kernel_rfl), by kernel_rfl⟩
theorem tb60 : Am.tab Try.prog mdT 60 = some c60.er ∧ c60.body.sok = true := ⟨tab_of Try.func60 (by kernel_rfl), by kernel_rfl⟩
theorem tb79 : Am.tab Try.prog mdT 79 = some c79.er ∧ c79.body.sok = true := ⟨tab_of Try.func79 (by kernel_rfl), by kernel_rfl⟩
theorem tb80 : Am.tab Try.prog mdT 80 = some c80.er ∧ c80.body.sok = true := ⟨tab_of Try.func80 (by kernel_rfl), by kernel_rfl⟩
theorem tb81 : Am.tab Try.prog mdT 81 = some c81.er ∧ c81.body.sok = true := ⟨tab_of Try.func81 (by kernel_rfl), by kernel_rfl⟩
theorem tb85 : Am.tab Try.prog mdT 85 = some c85.er ∧ c85.body.sok = true := ⟨tab_of Try.func85 (by kernel_rfl), by kernel_rfl⟩
theorem tb96 : Am.tab Try.prog mdT 96 = some c96.er ∧ c96.body.sok = true := ⟨tab_of Try.func96 (by kernel_rfl), by kernel_rfl⟩
theorem tb97 : Am.tab Try.prog mdT 97 = some c97.er ∧ c97.body.sok = true := ⟨tab_of Try.func97 (by kernel_rfl), by kernel_rfl⟩
theorem tb98 : Am.tab Try.prog mdT 98 = some c98.er ∧ c98.body.sok = true := ⟨tab_of Try.func98 (by kernel_rfl), by kernel_rfl⟩
theorem tb114 : Am.tab Try.prog mdT 114 = some c114.er ∧ c114.body.sok = true := ⟨tab_of Try.func114 (by kernel_rfl), by kernel_rfl⟩
theorem tb115 : Am.tab Try.prog mdT 115 = some c115.er ∧ c115.body.sok = true := ⟨tab_of Try.func115 (by kernel_rfl), by kernel_rfl⟩
theorem tb116 : Am.tab Try.prog mdT 116 = some c116.er ∧ c116.body.sok = true := ⟨tab_of Try.func116 (by kernel_rfl), by kernel_rfl⟩
theorem tb125 : Am.tab Try.prog mdT 125 = some c125.er ∧ c125.body.sok = true := ⟨tab_of Try.func125 (by kernel_rfl), by kernel_rfl⟩
theorem tb126 : Am.tab Try.prog mdT 126 = some c126.er ∧ c126.body.sok = true := ⟨tab_of Try.func126 (by kernel_rfl), by kernel_rfl⟩
theorem tb127 : Am.tab Try.prog mdT 127 = some c127.er ∧ c127.body.sok = true := ⟨tab_of Try.func127 (by kernel_rfl), by kernel_rfl⟩
theorem tb132 : Am.tab Try.prog mdT 132 = some c132.er ∧ c132.body.sok = true := ⟨tab_of Try.func132 (by kernel_rfl), by kernel_rfl⟩
theorem tb133 : Am.tab Try.prog mdT 133 = some c133.er ∧ c133.body.sok = true := ⟨tab_of Try.func133 (by kernel_rfl), by kernel_rfl⟩
theorem allT : AllT Try.prog mdT TL := ⟨tb5, tb35, tb36, tb37, tb38, tb39, tb40, tb41, tb42, tb45, tb51, tb54, tb58, tb60, tb79, tb80, tb81, tb85, tb96, tb97, tb98, tb114, tb115, tb116, tb125, tb126, tb127, tb132, tb133, trivial⟩
theorem mixed : Try.prog.follows .mixedOrders = true := by kernel_rfl
theorem envOK : EnvOK Try.prog Γ := envOK_of allT (fun f p ms args r us h => by cases h) mixed
theorem envB : EnvB Γ T := envB_of allT fun f p args r us h => by cases h
theorem own : ownKnob Try.prog.godebug = none := by kernel_rfl
theorem kids : Kids Try.prog (· < Try.prog.types.size) := kids_rows (by kernel_rfl) (by kernel_rfl)
theorem full : ∀ t e, t < Try.prog.types.size → Try.prog.underlying t = some (.slice e) → 0 < Try.prog.cellsOf e := slices_full_of _ (by kernel_rfl)
theorem ok45 : okT Try.prog 8 45 = true := by kernel_rfl
theorem lt45 : 45 < Try.prog.types.size := of_decide_eq_true (by kernel_rfl)
theorem ok44 : okT Try.prog 8 44 = true := by kernel_rfl
theorem lt44 : 44 < Try.prog.types.size := of_decide_eq_true (by kernel_rfl)
set_option maxRecDepth 1000000 in
theorem iso (vs : List V) (h : TYs Try.prog 8 [44, 45, 45] vs) : IsoOK Try.prog 5 [] vs (.b true) [] := by
  obtain ⟨v0, w0, rfl, h0, v1, w1, rfl, h1, v2, w2, rfl, h2, rfl⟩ := h
  obtain ⟨a0, rfl, k0⟩ := (show Dec Try.prog 8 44 _ from dec_L Try.underlying44 (dec_4 Try.underlying86 rfl (dec_s Try.underlying9) (dec_L Try.underlying45 (dec_s Try.underlying9)) (dec_L Try.underlying84 (dec_1 Try.underlying120 rfl (dec_L Try.underlying118 (dec_2 Try.underlying143 rfl (dec_u Try.underlying5) (dec_u Try.underlying5))))) (dec_L Try.underlying57 (dec_L Try.underlying27 (dec_i Try.underlying3))))) _ h0
  obtain ⟨a1, rfl, k1⟩ := (show Dec Try.prog 8 45 _ from dec_L Try.underlying45 (dec_s Try.underlying9)) _ h1
  obtain ⟨a2, rfl, k2⟩ := (show Dec Try.prog 8 45 _ from dec_L Try.underlying45 (dec_s Try.underlying9)) _ h2
  exact CALLB_ok envOK envB rfl (by simp only [PurL]; exact ⟨Ror.pur _ h0.ror, Ror.pur _ h1.ror, Ror.pur _ h2.ror, trivial⟩) (law_FnExactDisagreesAt a0 a1 a2 k0 k1 k2)
open Go.Proofs.Ythpaolkonlhjfaa in
set_option maxRecDepth 100000 in
theorem lifted (os : Os) (started : os.Started) (H : Type) (enc : TypeId × Value → H) :
    ReturnsInHanded {} Try.checked os 5 .any (Rows.fnExactDisagreesAtSpec.pre6 enc Try.prog Try.f5 Rows.fnExactDisagreesAtRow.domain false) (Rows.fnExactDisagreesAtSpec.post enc Try.prog Try.f5 false true false false) := by
  refine returnsInHanded_of_change (C := Try.checked) own started (by kernel_rfl) Try.func5
    (ChangeSpec.witness6 (enc := enc) (C := Try.checked) false ⟨#[], #[.slice none 0 0, .slice none 0 0, .slice none 0 0], []⟩ 8 (by kernel_rfl) (by kernel_rfl) (by kernel_rfl) (by kernel_rfl)) ?_
  intro W base args ds gs before hval hW hcnd _
  exact law_post (d := 8) (tb := 4) kids full hval hW rfl (fun ds hd => by
    match ds, hd with
    | [d0, d1, d2], _ => rfl) rfl Try.underlying4 (by
      intro t ht
      have : t = 44 ∨ t = 45 := by simpa [Try.f5] using ht
      rcases this with rfl | rfl
      · exact ⟨ok44, lt44⟩
      · exact ⟨ok45, lt45⟩) iso
end Go.Am
namespace Go.Proofs.Ythpaolkonlhjfaa
open Go.Am in
theorem fnExactDisagreesAt_holds : Rows.FnExactDisagreesAtSaid :=
  OpenClaim.holds_of_wide 5 Try.f5 rfl rfl rfl rfl rfl rfl rfl ⟨rfl, rfl, rfl, rfl, rfl⟩ rfl rfl rfl rfl rfl (by kernel_rfl) Try.func5 (by kernel_rfl)
    (of_decide_eq_true (by kernel_rfl)) (by unfold Func.isWrapper; first | (rw [if_pos (by decide +kernel)]; kernel_rfl) | (rw [if_neg (by decide +kernel)]; exact ⟨rfl, rfl⟩))
    (fun os started H enc _ => Go.Am.lifted os started H enc)
#print axioms fnExactDisagreesAt_holds
end Go.Proofs.Ythpaolkonlhjfaa
