/-
  The given law FnExactFindLanguage holds for every input: it returns true, and its arguments read behind the call as they read before. No conditions.
-/
import Derived.Test.YtocgmaekciphcaaRows
import Derived.Test.YtocgmaekciphcaaFnExactFindLanguageC
import Derived.ProofKit
set_option linter.all false
set_option maxHeartbeats 1000000
set_option synthInstance.maxSize 1000
namespace Go.Am
open Go.ChangeShapes Go.WideShapes Go.ChangeAt Go.RowKit
open Go.Proofs (Try.prog)
attribute [local irreducible] snapB roT giveB okD free packB
abbrev eLanguage (x : (List ByteArray) × Int × (List Int)) : V := .st [eS (x.1), .i (x.2.1), eI (x.2.2)]
abbrev oLanguage (x : (List ByteArray) × Int × (List Int)) : V := .st [oS (x.1), .i (x.2.1), oI (x.2.2)]
abbrev eLanguageS (x : List ((List ByteArray) × Int × (List Int))) : V := eL eLanguage x
abbrev oLanguageS (x : List ((List ByteArray) × Int × (List Int))) : V := oL 3 oLanguage x
theorem sz_IntS (l : List Int) (n : Int) (h0 : 0 ≤ n) (h1 : n ≤ 1048576) (hl : Bnd.wf l) : ∃ t, CALLB Γ T 65 [] [eI l, .i n] = some (t, []) ∧ SzP l n t := by
  have hle := wf_len hl
  apply call_ex rfl rfl rfl rfl
  repeat' (first|refine st ?_|(refine Br.mk ?_ ?_<;>intro hc)|(refine An.mk ?_;intro x hx))
  · exact sz_neg
  · exact sz_ok ⟨by omega, fun _ _ => trivial⟩
theorem sz_StringS (l : List ByteArray) (n : Int) (h0 : 0 ≤ n) (h1 : n ≤ 1048576) (hl : Bnd.wf l) : ∃ t, CALLB Γ T 17 [] [eS l, .i n] = some (t, []) ∧ SzP l n t := by
  have hle := wf_len hl
  apply call_ex rfl rfl rfl rfl
  repeat' (first|refine st ?_|(refine Br.mk ?_ ?_<;>intro hc)|(refine An.mk ?_;intro x hx))
  · exact sz_neg
  refine wp_eachI (l) (fun _ _ => ()) (fun i (g : Int) => ⟨envA [(0, eS l), (1, .i g), (5, .i (i : Nat))], heapA [], 0, false⟩) (n - l.length) (()) (fun i (g : Int) => 0 ≤ g ∧ g ≤ n ∧ l.length ≤ 1048576 ∧ ∀ x ∈ l.take i, Bnd.ok x) nm ?_ ?_ ?_ ?_
  · rfl
  · exact ⟨by omega, by omega, by omega, take_nil⟩
  · intro i g x hi hx hm _ hI
    have hxl : x.size ≤ 9223372036854775807 := wf_mem hl hm
    repeat' (first|refine st ?_|(refine Br.mk ?_ ?_<;>intro hc)|(refine An.mk ?_;intro x hx))
    · exact sz_neg
    · exact ei_n (g - x.size) rfl ⟨by omega, by omega, hI.2.2.1, take_all hI.2.2.2 hx (show x.size ≤ 2 ^ 32 by omega)⟩ nm
  · intro g _ hI
    repeat' (first|refine st ?_|(refine Br.mk ?_ ?_<;>intro hc)|(refine An.mk ?_;intro x hx))
    exact sz_ok ⟨by omega, take_end hI.2.2.2⟩ hI.1 hI.2.1
theorem sz_Language (l : (List ByteArray) × Int × (List Int)) (n : Int) (h0 : 0 ≤ n) (h1 : n ≤ 1048576) (hl : Bnd.wf l) : ∃ t, CALLB Γ T 48 [] [eLanguage l, .i n] = some (t, []) ∧ SzP l n t := by
  apply call_ex rfl rfl rfl rfl
  obtain ⟨t0, hk0, m0, rfl, h0_⟩ := sz_StringS (l.1) n (by omega) (by omega) (hl.1)
  repeat' (first|refine st ?_|(apply i_ca;first|refine c0 (hk0) ?_)|(refine Br.mk ?_ ?_<;>intro hc)|(refine An.mk ?_;intro x hx))
  · exact sz_neg
  have h0' := h0_.resolve_left (by omega)
  obtain ⟨t2, hk2, m2, rfl, h2_⟩ := sz_IntS (l.2.2) m0 (by omega) (by omega) (hl.2.2)
  repeat' (first|refine st ?_|(apply i_ca;first|refine c0 (hk2) ?_)|(refine Br.mk ?_ ?_<;>intro hc)|(refine An.mk ?_;intro x hx))
  · exact sz_neg
  have h2' := h2_.resolve_left (by omega)
  repeat' (first|refine st ?_|(refine Br.mk ?_ ?_<;>intro hc)|(refine An.mk ?_;intro x hx))
  exact sz_ok (⟨h0'.1, ⟨trivial, h2'.1⟩⟩)
theorem sz_LanguageS (l : List ((List ByteArray) × Int × (List Int))) (n : Int) (h0 : 0 ≤ n) (h1 : n ≤ 1048576) (hl : Bnd.wf l) : ∃ t, CALLB Γ T 16 [] [eLanguageS l, .i n] = some (t, []) ∧ SzP l n t := by
  have hle := wf_len hl
  apply call_ex rfl rfl rfl rfl
  repeat' (first|refine st ?_|(refine Br.mk ?_ ?_<;>intro hc)|(refine An.mk ?_;intro x hx))
  · exact sz_neg
  refine wp_eachI (l) (fun _ _ => ()) (fun i (g : Int) => ⟨envA [(0, eLanguageS l), (1, .i g), (5, .i (i : Nat))], heapA [], 0, false⟩) (n - l.length) (()) (fun i (g : Int) => 0 ≤ g ∧ g ≤ n ∧ l.length ≤ 1048576 ∧ ∀ x ∈ l.take i, Bnd.ok x) nm ?_ ?_ ?_ ?_
  · rfl
  · exact ⟨by omega, by omega, by omega, take_nil⟩
  · intro i g x hi hx hm _ hI
    obtain ⟨t, hk, m, rfl, hm'⟩ := sz_Language x g (by omega) (by omega) (wf_mem hl hm)
    repeat' (first|refine st ?_|(apply i_ca;first|refine c0 (hk) ?_)|(refine Br.mk ?_ ?_<;>intro hc)|(refine An.mk ?_;intro x hx))
    · exact sz_neg
    · have hm2 := hm'.resolve_left (by omega)
      exact ei_n m rfl ⟨hm2.2.1, by omega, hI.2.2.1, take_all hI.2.2.2 hx hm2.1⟩ nm
  · intro g _ hI
    repeat' (first|refine st ?_|(refine Br.mk ?_ ?_<;>intro hc)|(refine An.mk ?_;intro x hx))
    exact sz_ok ⟨by omega, take_end hI.2.2.2⟩ hI.1 hI.2.1
theorem eq_IntS (a b : List Int) (ha : Bnd.ok a) : CALLB Γ T 61 [] [eI a, eI b] = some (.b (decide (a = b)), []) := by
  have hle := ok_len ha
  apply call_ro' rfl rfl rfl rfl
  repeat' (first|refine st ?_|(refine Br.mk ?_ ?_<;>intro hc)|(refine An.mk ?_;intro x hx))
  · exact (decide_eq_false (by rintro rfl; omega)).symm
  refine wp_eachI (a) (fun _ _ => ()) (fun i (_ : Unit) => ⟨envA [(0, eI a), (1, eI b), (5, .i (i : Nat))], heapA [], 0, false⟩) (()) (()) (fun i (_ : Unit) => a.take i = b.take i) nm ?_ ?_ ?_ ?_
  · rfl
  · rfl
  · intro i g x hi hx hm _ hI
    obtain ⟨y, hy⟩ := cell_of (r := b) (j := i) (by omega)
    repeat' (first|refine st ?_|(refine Br.mk ?_ ?_<;>intro hc)|(refine An.mk ?_;intro x hx))
    · exact (decide_eq_false (ne_of_at hx hy (by assumption))).symm
    · exact ei_n () rfl (take_eq hI hx hy (by assumption)) nm
  · intro g _ hI
    repeat' (first|refine st ?_|(refine Br.mk ?_ ?_<;>intro hc)|(refine An.mk ?_;intro x hx))
    exact (decide_eq_true (eq_of_take hI (by omega))).symm
theorem eq_StringS (a b : List ByteArray) (ha : Bnd.ok a) : CALLB Γ T 23 [] [eS a, eS b] = some (.b (decide (a = b)), []) := by
  have hle := ok_len ha
  apply call_ro' rfl rfl rfl rfl
  repeat' (first|refine st ?_|(refine Br.mk ?_ ?_<;>intro hc)|(refine An.mk ?_;intro x hx))
  · exact (decide_eq_false (by rintro rfl; omega)).symm
  refine wp_eachI (a) (fun _ _ => ()) (fun i (_ : Unit) => ⟨envA [(0, eS a), (1, eS b), (5, .i (i : Nat))], heapA [], 0, false⟩) (()) (()) (fun i (_ : Unit) => a.take i = b.take i) nm ?_ ?_ ?_ ?_
  · rfl
  · rfl
  · intro i g x hi hx hm _ hI
    obtain ⟨y, hy⟩ := cell_of (r := b) (j := i) (by omega)
    repeat' (first|refine st ?_|(refine Br.mk ?_ ?_<;>intro hc)|(refine An.mk ?_;intro x hx))
    · exact (decide_eq_false (ne_of_at hx hy (by assumption))).symm
    · exact ei_n () rfl (take_eq hI hx hy (by assumption)) nm
  · intro g _ hI
    repeat' (first|refine st ?_|(refine Br.mk ?_ ?_<;>intro hc)|(refine An.mk ?_;intro x hx))
    exact (decide_eq_true (eq_of_take hI (by omega))).symm
theorem eq_Language (a b : (List ByteArray) × Int × (List Int)) (ha : Bnd.ok a) : CALLB Γ T 54 [] [eLanguage a, eLanguage b] = some (.b (decide (a = b)), []) := by
  apply call_ro' rfl rfl rfl rfl
  repeat' (first|refine st ?_|(apply i_ca;first|(apply i_f 23;refine c0 (eq_StringS _ _ (ha.1)) ?_)|(apply i_f 61;refine c0 (eq_IntS _ _ (ha.2.2)) ?_))|(refine Br.mk ?_ ?_<;>intro hc)|(refine An.mk ?_;intro x hx))
  all_goals obtain ⟨a0, a1, a2⟩ := a; obtain ⟨b0, b1, b2⟩ := b; simp_all [Prod.ext_iff]
theorem eq_LanguageS (a b : List ((List ByteArray) × Int × (List Int))) (ha : Bnd.ok a) : CALLB Γ T 22 [] [eLanguageS a, eLanguageS b] = some (.b (decide (a = b)), []) := by
  have hle := ok_len ha
  apply call_ro' rfl rfl rfl rfl
  repeat' (first|refine st ?_|(refine Br.mk ?_ ?_<;>intro hc)|(refine An.mk ?_;intro x hx))
  · exact (decide_eq_false (by rintro rfl; omega)).symm
  refine wp_eachI (a) (fun _ _ => ()) (fun i (_ : Unit) => ⟨envA [(0, eLanguageS a), (1, eLanguageS b), (5, .i (i : Nat))], heapA [], 0, false⟩) (()) (()) (fun i (_ : Unit) => a.take i = b.take i) nm ?_ ?_ ?_ ?_
  · rfl
  · rfl
  · intro i g x hi hx hm _ hI
    obtain ⟨y, hy⟩ := cell_of (r := b) (j := i) (by omega)
    repeat' (first|refine st ?_|(apply i_ca;first|(apply i_f 54;refine c0 (eq_Language x y (ok_mem ha hm)) ?_))|(refine Br.mk ?_ ?_<;>intro hc)|(refine An.mk ?_;intro x hx))
    · exact (decide_eq_false (ne_of_at hx hy (by assumption))).symm
    · exact ei_n () rfl (take_eq hI hx hy (by assumption)) nm
  · intro g _ hI
    repeat' (first|refine st ?_|(refine Br.mk ?_ ?_<;>intro hc)|(refine An.mk ?_;intro x hx))
    exact (decide_eq_true (eq_of_take hI (by omega))).symm
theorem to_IntS (l : List Int) (hl : Bnd.ok l) : CALLB Γ T 66 [] [eI l] = some (oI l, []) := by
  have hle := ok_len hl
  apply call_ro' rfl rfl rfl rfl
  repeat' (first|refine st ?_|(refine Br.mk ?_ ?_<;>intro hc)|(refine An.mk ?_;intro x hx))
  refine wp_each (l) (fun _ _ => ()) (fun i (_ : Unit) => ⟨envA [(0, eI l), (3, .hs 0 0 l.length l.length), (4, .i (i : Nat))], heapA [some ⟨1, (l.take i).map V.i ++ List.replicate (l.length - i) (.im (.int .i64 0)), false⟩], 1, false⟩) (()) (()) nm ?_ ?_ ?_
  · rfl
  · intro i g x hi hx hm _
    repeat' (first|refine st ?_|(refine Br.mk ?_ ?_<;>intro hc)|(refine An.mk ?_;intro x hx))
    exact ea_n () rfl nm
  · intro g _
    rw [fill_full]
    repeat' (first|refine st ?_|(refine Br.mk ?_ ?_<;>intro hc)|(refine An.mk ?_;intro x hx))
    rfl
theorem to_StringS (l : List ByteArray) (hl : Bnd.ok l) : CALLB Γ T 20 [] [eS l] = some (oS l, []) := by
  have hle := ok_len hl
  apply call_ro' rfl rfl rfl rfl
  repeat' (first|refine st ?_|(refine Br.mk ?_ ?_<;>intro hc)|(refine An.mk ?_;intro x hx))
  refine wp_each (l) (fun _ _ => ()) (fun i (_ : Unit) => ⟨envA [(0, eS l), (3, .hs 0 0 l.length l.length), (4, .i (i : Nat))], heapA [some ⟨1, (l.take i).map V.s ++ List.replicate (l.length - i) (.im (.string ⟨#[]⟩)), false⟩], 1, false⟩) (()) (()) nm ?_ ?_ ?_
  · rfl
  · intro i g x hi hx hm _
    repeat' (first|refine st ?_|(refine Br.mk ?_ ?_<;>intro hc)|(refine An.mk ?_;intro x hx))
    exact ea_n () rfl nm
  · intro g _
    rw [fill_full]
    repeat' (first|refine st ?_|(refine Br.mk ?_ ?_<;>intro hc)|(refine An.mk ?_;intro x hx))
    rfl
theorem to_Language (l : (List ByteArray) × Int × (List Int)) (hl : Bnd.ok l) : CALLB Γ T 50 [] [eLanguage l] = some (oLanguage l, []) := by
  apply call_ro' rfl rfl rfl rfl
  repeat' (first|refine st ?_|(apply i_ca;first|(apply i_f 20;refine c0 (to_StringS _ (hl.1)) ?_)|(apply i_f 66;refine c0 (to_IntS _ (hl.2.2)) ?_))|(refine Br.mk ?_ ?_<;>intro hc)|(refine An.mk ?_;intro x hx))
  exact ⟨rfl, ⟨rfl, ⟨rfl, trivial⟩⟩⟩
theorem to_LanguageS (l : List ((List ByteArray) × Int × (List Int))) (hl : Bnd.ok l) : CALLB Γ T 19 [] [eLanguageS l] = some (oLanguageS l, []) := by
  have hle := ok_len hl
  apply call_ro' rfl rfl rfl rfl
  repeat' (first|refine st ?_|(refine Br.mk ?_ ?_<;>intro hc)|(refine An.mk ?_;intro x hx))
  refine wp_each (l) (fun _ _ => ()) (fun i (_ : Unit) => ⟨envA [(0, eLanguageS l), (3, .hs 0 0 l.length l.length), (4, .i (i : Nat))], heapA [some ⟨3, (l.take i).map oLanguage ++ List.replicate (l.length - i) ((.st [.e0, .im (.int .i64 0), .e0])), false⟩], 1, false⟩) (()) (()) nm ?_ ?_ ?_
  · rfl
  · intro i g x hi hx hm _
    repeat' (first|refine st ?_|(apply i_ca;first|(apply i_f 50;refine c0 (to_Language x (ok_mem hl hm)) ?_))|(refine Br.mk ?_ ?_<;>intro hc)|(refine An.mk ?_;intro x hx))
    exact ea_n () rfl nm
  · intro g _
    rw [fill_full]
    repeat' (first|refine st ?_|(refine Br.mk ?_ ?_<;>intro hc)|(refine An.mk ?_;intro x hx))
    rfl
theorem k_slEqS (a b : List ByteArray) (ha : Bnd.ok a) : CALLB Γ T 53 [] [eS a, eS b] = some (.b (decide (a = b)), []) := by
  have hle := ok_len ha
  apply call_ro' rfl rfl rfl rfl
  repeat' (first|refine st ?_|(refine Br.mk ?_ ?_<;>intro hc)|(refine An.mk ?_;intro x hx))
  · exact (decide_eq_false (by rintro rfl; omega)).symm
  refine wp_eachI (a) (fun _ _ => ()) (fun i (_ : Unit) => ⟨envA [(0, eS a), (1, eS b), (12, .i a.length), (13, .i (i : Nat))], heapA [], 0, false⟩) (()) (()) (fun i (_ : Unit) => a.take i = b.take i) nm ?_ ?_ ?_ ?_
  · rfl
  · rfl
  · intro i g x hi hx hm _ hI
    obtain ⟨y, hy⟩ := cell_of (r := b) (j := i) (by omega)
    repeat' (first|refine st ?_|(refine Br.mk ?_ ?_<;>intro hc)|(refine An.mk ?_;intro x hx))
    · exact (decide_eq_false (ne_of_at hx hy (by assumption))).symm
    · exact ei_n () rfl (take_eq hI hx hy (by assumption)) nm
  · intro g _ hI
    repeat' (first|refine st ?_|(refine Br.mk ?_ ?_<;>intro hc)|(refine An.mk ?_;intro x hx))
    exact (decide_eq_true (eq_of_take hI (by omega))).symm
theorem k_l20Same (a b : List ByteArray) (ha : Bnd.ok a) : CALLB Γ T 49 [] [eS a, eS b] = some (.b (decide (a = b)), []) := by
  have hle := ok_len ha
  apply call_ro' rfl rfl rfl rfl
  repeat' (first|refine st ?_|(refine Br.mk ?_ ?_<;>intro hc)|(refine An.mk ?_;intro x hx))
  · exact (decide_eq_false (by rintro rfl; omega)).symm
  refine wp_eachI (a) (fun _ _ => ()) (fun i (_ : Unit) => ⟨envA [(0, eS a), (1, eS b), (5, .i (i : Nat))], heapA [], 0, false⟩) (()) (()) (fun i (_ : Unit) => a.take i = b.take i) nm ?_ ?_ ?_ ?_
  · rfl
  · rfl
  · intro i g x hi hx hm _ hI
    obtain ⟨y, hy⟩ := cell_of (r := b) (j := i) (by omega)
    repeat' (first|refine st ?_|(refine Br.mk ?_ ?_<;>intro hc)|(refine An.mk ?_;intro x hx))
    · exact (decide_eq_false (ne_of_at hx hy (by assumption))).symm
    · exact ei_n () rfl (take_eq hI hx hy (by assumption)) nm
  · intro g _ hI
    repeat' (first|refine st ?_|(refine Br.mk ?_ ?_<;>intro hc)|(refine An.mk ?_;intro x hx))
    exact (decide_eq_true (eq_of_take hI (by omega))).symm
def idxFrom {α : Type} (p : α → Bool) : List α → Nat → Int
  | [], _ => -1
  | x :: r, i => if p x then (i : Int) else idxFrom p r (i + 1)
theorem idxFrom_congr {α : Type} {p q : α → Bool} : ∀ {l : List α} {i : Nat}, (∀ x ∈ l, p x = q x) → idxFrom p l i = idxFrom q l i
  | [], _, _ => rfl
  | x :: l, i, h => by
    simp only [idxFrom, h x (by simp)]
    rw [idxFrom_congr (l := l) fun y hy => h y (by simp [hy])]
theorem k_IndexFuncLang (f : Nat) (v : V) (p : List ByteArray × Int × List Int → Bool) (l : List (List ByteArray × Int × List Int)) (hmd : Γ.md f = some []) (hl : Bnd.ok l) (hp : ∀ x ∈ l, CALLB Γ T f [] [eLanguage x, .rp v] = some (.b (p x), [])) :
    CALLB Γ T 51 [] [eLanguageS l, .cl f [.rp v]] = some (.i (idxFrom p l 0), []) := by
  have hle := ok_len hl
  apply call_ro' rfl rfl rfl rfl
  repeat' (first|refine st ?_|(refine Br.mk ?_ ?_<;>intro hc)|(refine An.mk ?_;intro x hx))
  refine wp_eachI (l) (fun r g => idxFrom p r g) (fun i (g : Nat) => ⟨envA [(0, eLanguageS l), (1, .cl f [.rp v]), (7, .i l.length), (8, .i (i : Nat))], heapA [], 0, false⟩) (0) (idxFrom p l 0) (fun i (g : Nat) => g = i) nm ?_ ?_ ?_ ?_
  · rfl
  · rfl
  · rintro i g x hi hx hm hF rfl
    have hk := hp x hm
    repeat' (first|refine st ?_|(apply i_ca;first|refine cv (hk) ?_)|(refine Br.mk ?_ ?_<;>intro hc)|(refine An.mk ?_;intro x hx))
    · rw [← hF]; simp [idxFrom, hc]
    · exact ei_n (g + 1) (by rw [← hF]; simp [idxFrom, hc]) rfl nm
  · intro g hF hI
    repeat' (first|refine st ?_|(refine Br.mk ?_ ?_<;>intro hc)|(refine An.mk ?_;intro x hx))
    rw [← hF]; rfl
theorem k_FindLanguage1 (x : List ByteArray × Int × List Int) (o : List ByteArray) (hx : Bnd.ok x) : CALLB Γ T 52 [] [eLanguage x, .rp (eS o)] = some (.b (decide (x.1 = o)), []) := by
  apply call_ro' rfl rfl rfl rfl
  repeat' (first|refine st ?_|(apply i_ca;first|(apply i_f 53;refine c0 (k_slEqS _ _ hx.1) ?_))|(refine Br.mk ?_ ?_<;>intro hc)|(refine An.mk ?_;intro x hx))
  rfl
theorem k_FindLanguage (l : List (List ByteArray × Int × List Int)) (o : List ByteArray) (hl : Bnd.ok l) : CALLB Γ T 21 [] [eLanguageS l, eS o] = some (.i (idxFrom (fun x => decide (x.1 = o)) l 0), []) := by
  have hc1 : ∀ x ∈ l, CALLB Γ T 52 [] [eLanguage x, .rp (eS o)] = some (.b (decide (x.1 = o)), []) := fun x hx => k_FindLanguage1 x o (ok_mem hl hx)
  apply call_ro' rfl rfl rfl rfl
  repeat' (first|refine st ?_|(apply i_ca;first|refine c0 (k_IndexFuncLang 52 (eS o) _ l rfl hl hc1) ?_)|(refine Br.mk ?_ ?_<;>intro hc)|(refine An.mk ?_;intro x hx))
  rfl
theorem k_sFindLanguage (l : List (List ByteArray × Int × List Int)) (o : List ByteArray) (hl : Bnd.ok l) : CALLB Γ T 18 [] [eLanguageS l, eS o] = some (.i (idxFrom (fun x => decide (x.1 = o)) l 0), []) := by
  have hle := ok_len hl
  apply call_ro' rfl rfl rfl rfl
  repeat' (first|refine st ?_|(refine Br.mk ?_ ?_<;>intro hc)|(refine An.mk ?_;intro x hx))
  refine wp_eachI (l) (fun r g => idxFrom (fun x => decide (x.1 = o)) r g) (fun i (g : Nat) => ⟨envA [(0, eLanguageS l), (1, eS o), (5, .i (i : Nat))], heapA [], 0, false⟩) (0) (idxFrom (fun x => decide (x.1 = o)) l 0) (fun i (g : Nat) => g = i) nm ?_ ?_ ?_ ?_
  · rfl
  · rfl
  · rintro i g x hi hx hm hF rfl
    repeat' (first|refine st ?_|(apply i_ca;first|(apply i_f 49;refine c0 (k_l20Same _ _ (ok_mem hl hm).1) ?_))|(refine Br.mk ?_ ?_<;>intro hc)|(refine An.mk ?_;intro x hx))
    · rw [← hF]; simp [idxFrom, hc]
    · exact ei_n (g + 1) (by rw [← hF]; simp [idxFrom, hc]) rfl nm
  · intro g hF hI
    repeat' (first|refine st ?_|(refine Br.mk ?_ ?_<;>intro hc)|(refine An.mk ?_;intro x hx))
    rw [← hF]; rfl
theorem law_FnExactFindLanguage (a : List (List ByteArray × Int × List Int)) (b : List ByteArray) (ha : Bnd.wf a) (hb : Bnd.wf b) : CALLB Γ T 5 [] [eLanguageS a, eS b] = some (.b true, []) := by
  obtain ⟨t0, hk0, m0, rfl, h0⟩ := sz_LanguageS a 1048576 (by omega) (by omega) ha
  apply call_ro' rfl rfl rfl rfl
  (try refine st ?_)
  refine c0 (hk0) ?_
  repeat' (first|refine st ?_|(refine Br.mk ?_ ?_<;>intro hc)|(refine An.mk ?_;intro x hx))
  · rfl
  have h := h0.resolve_left (by omega)
  obtain ⟨t1, hk1, m1, rfl, h1⟩ := sz_StringS b m0 (by omega) (by omega) hb
  (try refine st ?_)
  refine c0 (hk1) ?_
  repeat' (first|refine st ?_|(refine Br.mk ?_ ?_<;>intro hc)|(refine An.mk ?_;intro x hx))
  · rfl
  have g := h1.resolve_left (by omega)
  repeat' (first|refine st ?_|(apply i_ca;first|(apply i_f 19;refine c0 (to_LanguageS a h.1) ?_)|(apply i_f 20;refine c0 (to_StringS b g.1) ?_)|(apply i_f 18;refine c0 (k_sFindLanguage _ _ h.1) ?_)|(apply i_f 21;refine c0 (k_FindLanguage _ _ h.1) ?_)|(apply i_f 22;refine c0 (eq_LanguageS a a h.1) ?_)|(apply i_f 23;refine c0 (eq_StringS b b g.1) ?_))|(refine Br.mk ?_ ?_<;>intro hc)|(refine An.mk ?_;intro x hx))
  all_goals first | rfl | exact absurd rfl hc
open Go.Proofs
theorem tb5 : Am.tab Try.prog mdT 5 = some c5.er ∧ c5.body.sok = true := ⟨tab_of Try.func5 (by kernel_rfl), by kernel_rfl⟩
theorem tb16 : Am.tab Try.prog mdT 16 = some c16.er ∧ c16.body.sok = true := ⟨tab_of Try.func16 (by kernel_rfl), by kernel_rfl⟩
theorem tb17 : Am.tab Try.prog mdT 17 = some c17.er ∧ c17.body.sok = true := ⟨tab_of Try.func17 (by kernel_rfl), by kernel_rfl⟩
theorem tb18 : Am.tab Try.prog mdT 18 = some c18.er ∧ c18.body.sok = true := ⟨tab_of Try.func18 (by kernel_rfl), by kernel_rfl⟩
theorem tb19 : Am.tab Try.prog mdT 19 = some c19.er ∧ c19.body.sok = true := ⟨tab_of Try.func19 (by kernel_rfl), by kernel_rfl⟩
theorem tb20 : Am.tab Try.prog mdT 20 = some c20.er ∧ c20.body.sok = true := ⟨tab_of Try.func20 (by kernel_rfl), by kernel_rfl⟩
theorem tb21 : Am.tab Try.prog mdT 21 = some c21.er ∧ c21.body.sok = true := ⟨tab_of Try.func21 (by kernel_rfl), by kernel_rfl⟩
theorem tb22 : Am.tab Try.prog mdT 22 = some c22.er ∧ c22.body.sok = true := ⟨tab_of Try.func22 (by kernel_rfl), by kernel_rfl⟩
theorem tb23 : Am.tab Try.prog mdT 23 = some c23.er ∧ c23.body.sok = true := ⟨tab_of Try.func23 (by kernel_rfl), by kernel_rfl⟩
theorem tb48 : Am.tab Try.prog mdT 48 = some c48.er ∧ c48.body.sok = true := ⟨tab_of Try.func48 (by kernel_rfl), by kernel_rfl⟩
theorem tb49 : Am.tab Try.prog mdT 49 = some c49.er ∧ c49.body.sok = true := ⟨tab_of Try.func49 (by kernel_rfl), by kernel_rfl⟩
theorem tb50 : Am.tab Try.prog mdT 50 = some c50.er ∧ c50.body.sok = true := ⟨tab_of Try.func50 (by kernel_rfl), by kernel_rfl⟩
theorem tb51 : Am.tab Try.prog mdT 51 = some c51.er ∧ c51.body.sok = true := ⟨tab_of Try.func51 (by kernel_rfl), by kernel_rfl⟩
theorem tb52 : Am.tab Try.prog mdT 52 = some c52.er ∧ c52.body.sok = true := ⟨tab_of Try.func52 (by kernel_rfl), by kernel_rfl⟩
theorem tb53 : Am.tab Try.prog mdT 53 = some c53.er ∧ c53.body.sok = true := ⟨tab_of Try.func53 (by kernel_rfl), by kernel_rfl⟩
theorem tb54 : Am.tab Try.prog mdT 54 = some c54.er ∧ c54.body.sok = true := ⟨tab_of Try.func54 (by kernel_rfl), by kernel_rfl⟩
theorem tb61 : Am.tab Try.prog mdT 61 = some c61.er ∧ c61.body.sok = true := ⟨tab_of Try.func61 (by kernel_rfl), by kernel_rfl⟩
theorem tb65 : Am.tab Try.prog mdT 65 = some c65.er ∧ c65.body.sok = true := ⟨tab_of Try.func65 (by kernel_rfl), by kernel_rfl⟩
theorem tb66 : Am.tab Try.prog mdT 66 = some c66.er ∧ c66.body.sok = true := ⟨tab_of Try.func66 (by kernel_rfl), by kernel_rfl⟩
theorem allT : AllT Try.prog mdT TL := ⟨tb5, tb16, tb17, tb18, tb19, tb20, tb21, tb22, tb23, tb48, tb49, tb50, tb51, tb52, tb53, tb54, tb61, tb65, tb66, trivial⟩
theorem mixed : Try.prog.follows .mixedOrders = true := by kernel_rfl
theorem envOK : EnvOK Try.prog Γ := envOK_of allT (fun f p ms args r us h => by cases h) mixed
theorem envB : EnvB Γ T := envB_of allT fun f p args r us h => by cases h
theorem own : ownKnob Try.prog.godebug = none := by kernel_rfl
theorem kids : Kids Try.prog (· < Try.prog.types.size) := kids_rows (by kernel_rfl) (by kernel_rfl)
theorem full : ∀ t e, t < Try.prog.types.size → Try.prog.underlying t = some (.slice e) → 0 < Try.prog.cellsOf e := slices_full_of _ (by kernel_rfl)
theorem ok32 : okT Try.prog 8 32 = true := by kernel_rfl
theorem lt32 : 32 < Try.prog.types.size := of_decide_eq_true (by kernel_rfl)
theorem ok33 : okT Try.prog 8 33 = true := by kernel_rfl
theorem lt33 : 33 < Try.prog.types.size := of_decide_eq_true (by kernel_rfl)
theorem iso (vs : List V) (h : TYs Try.prog 8 [32, 33] vs) : IsoOK Try.prog 5 [] vs (.b true) [] := by
  obtain ⟨v0, w0, rfl, h0, v1, w1, rfl, h1, rfl⟩ := h
  obtain ⟨a0, rfl, k0⟩ := (show Dec Try.prog 8 32 _ from dec_L Try.underlying32 (dec_3 Try.underlying69 rfl (dec_L Try.underlying33 (dec_s Try.underlying9)) (dec_i Try.underlying3) (dec_L Try.underlying67 (dec_i Try.underlying3)))) _ h0
  obtain ⟨a1, rfl, k1⟩ := (show Dec Try.prog 8 33 _ from dec_L Try.underlying33 (dec_s Try.underlying9)) _ h1
  exact CALLB_ok envOK envB rfl (by simp only [PurL]; exact ⟨Ror.pur _ h0.ror, Ror.pur _ h1.ror, trivial⟩) (law_FnExactFindLanguage a0 a1 k0 k1)
open Go.Proofs.Ytocgmaekciphcaa in
set_option maxRecDepth 100000 in
theorem lifted (os : Os) (started : os.Started) (H : Type) (enc : TypeId × Value → H) :
    ReturnsInHanded {} Try.checked os 5 .any (Rows.fnExactFindLanguageSpec.pre6 enc Try.prog Try.f5 Rows.fnExactFindLanguageRow.domain false) (Rows.fnExactFindLanguageSpec.post enc Try.prog Try.f5 false true false false) := by
  refine returnsInHanded_of_change (C := Try.checked) own started (by kernel_rfl) Try.func5
    (ChangeSpec.witness6 (enc := enc) (C := Try.checked) false ⟨#[], #[.slice none 0 0, .slice none 0 0], []⟩ 8 (by kernel_rfl) (by kernel_rfl) (by kernel_rfl) (by kernel_rfl)) ?_
  intro W base args ds gs before hval hW hcnd _
  exact law_post (d := 8) (tb := 4) kids full hval hW rfl (fun ds hd => by
    match ds, hd with
    | [d0, d1], _ => rfl) rfl Try.underlying4 (by
      intro t ht
      have : t = 32 ∨ t = 33 := by simpa [Try.f5] using ht
      rcases this with rfl | rfl
      · exact ⟨ok32, lt32⟩
      · exact ⟨ok33, lt33⟩) iso
end Go.Am
namespace Go.Proofs.Ytocgmaekciphcaa
open Go.Am in
theorem fnExactFindLanguage_holds : Rows.FnExactFindLanguageSaid :=
  OpenClaim.holds_of_wide 5 Try.f5 rfl rfl rfl rfl rfl rfl rfl ⟨rfl, rfl, rfl, rfl, rfl⟩ rfl rfl rfl rfl rfl (by kernel_rfl) Try.func5 (by kernel_rfl)
    (of_decide_eq_true (by kernel_rfl)) (by unfold Func.isWrapper; first | (rw [if_pos (by decide +kernel)]; kernel_rfl) | (rw [if_neg (by decide +kernel)]; exact ⟨rfl, rfl⟩))
    (fun os started H enc _ => Go.Am.lifted os started H enc)
#print axioms fnExactFindLanguage_holds
end Go.Proofs.Ytocgmaekciphcaa
