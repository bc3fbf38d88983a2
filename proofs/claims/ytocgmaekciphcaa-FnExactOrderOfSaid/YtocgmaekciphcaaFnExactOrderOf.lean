/-
  The given law FnExactOrderOf holds for every input: it returns true, and its arguments read behind the call as they read before. No conditions.
-/
import Derived.Test.YtocgmaekciphcaaRows
import Derived.Test.YtocgmaekciphcaaFnExactOrderOfP1
import Derived.ProofKit
set_option linter.all false
set_option maxHeartbeats 1000000
set_option synthInstance.maxSize 1000
namespace Go.Am
open Go.ChangeShapes Go.WideShapes Go.ChangeAt Go.RowKit
open Go.Proofs (Try.prog)
attribute [local irreducible] snapB roT giveB okD free packB
open Go.Proofs
theorem tb8 : Am.tab Try.prog mdT 8 = some c8.er ∧ c8.body.sok = true := ⟨tab_of Try.func8 (by kernel_rfl), by kernel_rfl⟩
theorem tb13 : Am.tab Try.prog mdT 13 = some c13.er ∧ c13.body.sok = true := ⟨tab_of Try.func13 (by kernel_rfl), by kernel_rfl⟩
theorem tb14 : Am.tab Try.prog mdT 14 = some c14.er ∧ c14.body.sok = true := ⟨tab_of Try.func14 (by kernel_rfl), by kernel_rfl⟩
theorem tb15 : Am.tab Try.prog mdT 15 = some c15.er ∧ c15.body.sok = true := ⟨tab_of Try.func15 (by kernel_rfl), by kernel_rfl⟩
theorem tb31 : Am.tab Try.prog mdT 31 = some c31.er ∧ c31.body.sok = true := ⟨tab_of Try.func31 (by kernel_rfl), by kernel_rfl⟩
theorem tb32 : Am.tab Try.prog mdT 32 = some c32.er ∧ c32.body.sok = true := ⟨tab_of Try.func32 (by kernel_rfl), by kernel_rfl⟩
theorem tb33 : Am.tab Try.prog mdT 33 = some c33.er ∧ c33.body.sok = true := ⟨tab_of Try.func33 (by kernel_rfl), by kernel_rfl⟩
theorem tb35 : Am.tab Try.prog mdT 35 = some c35.er ∧ c35.body.sok = true := ⟨tab_of Try.func35 (by kernel_rfl), by kernel_rfl⟩
theorem tb36 : Am.tab Try.prog mdT 36 = some c36.er ∧ c36.body.sok = true := ⟨tab_of Try.func36 (by kernel_rfl), by kernel_rfl⟩
theorem tb37 : Am.tab Try.prog mdT 37 = some c37.er ∧ c37.body.sok = true := ⟨tab_of Try.func37 (by kernel_rfl), by kernel_rfl⟩
theorem tb38 : Am.tab Try.prog mdT 38 = some c38.er ∧ c38.body.sok = true := ⟨tab_of Try.func38 (by kernel_rfl), by kernel_rfl⟩
theorem tb39 : Am.tab Try.prog mdT 39 = some c39.er ∧ c39.body.sok = true := ⟨tab_of Try.func39 (by kernel_rfl), by kernel_rfl⟩
theorem tb45 : Am.tab Try.prog mdT 45 = some c45.er ∧ c45.body.sok = true := ⟨tab_of Try.func45 (by kernel_rfl), by kernel_rfl⟩
theorem tb46 : Am.tab Try.prog mdT 46 = some c46.er ∧ c46.body.sok = true := ⟨tab_of Try.func46 (by kernel_rfl), by kernel_rfl⟩
theorem tb47 : Am.tab Try.prog mdT 47 = some c47.er ∧ c47.body.sok = true := ⟨tab_of Try.func47 (by kernel_rfl), by kernel_rfl⟩
theorem tb61 : Am.tab Try.prog mdT 61 = some c61.er ∧ c61.body.sok = true := ⟨tab_of Try.func61 (by kernel_rfl), by kernel_rfl⟩
theorem tb62 : Am.tab Try.prog mdT 62 = some c62.er ∧ c62.body.sok = true := ⟨tab_of Try.func62 (by kernel_rfl), by kernel_rfl⟩
theorem tb63 : Am.tab Try.prog mdT 63 = some c63.er ∧ c63.body.sok = true := ⟨tab_of Try.func63 (by kernel_rfl), by kernel_rfl⟩
theorem tb65 : Am.tab Try.prog mdT 65 = some c65.er ∧ c65.body.sok = true := ⟨tab_of Try.func65 (by kernel_rfl), by kernel_rfl⟩
theorem tb66 : Am.tab Try.prog mdT 66 = some c66.er ∧ c66.body.sok = true := ⟨tab_of Try.func66 (by kernel_rfl), by kernel_rfl⟩
theorem tb67 : Am.tab Try.prog mdT 67 = some c67.er ∧ c67.body.sok = true := ⟨tab_of Try.func67 (by kernel_rfl), by kernel_rfl⟩
theorem tb68 : Am.tab Try.prog mdT 68 = some c68.er ∧ c68.body.sok = true := ⟨tab_of Try.func68 (by kernel_rfl), by kernel_rfl⟩
theorem tb71 : Am.tab Try.prog mdT 71 = some c71.er ∧ c71.body.sok = true := ⟨tab_of Try.func71 (by kernel_rfl), by kernel_rfl⟩
theorem tb77 : Am.tab Try.prog mdT 77 = some c77.er ∧ c77.body.sok = true := ⟨tab_of Try.func77 (by kernel_rfl), by kernel_rfl⟩
theorem tb78 : Am.tab Try.prog mdT 78 = some c78.er ∧ c78.body.sok = true := ⟨tab_of Try.func78 (by kernel_rfl), by kernel_rfl⟩
theorem allT : AllT Try.prog mdT TL := ⟨tb8, tb13, tb14, tb15, tb31, tb32, tb33, tb35, tb36, tb37, tb38, tb39, tb45, tb46, tb47, tb61, tb62, tb63, tb65, tb66, tb67, tb68, tb71, tb77, tb78, trivial⟩
theorem mixed : Try.prog.follows .mixedOrders = true := by kernel_rfl
theorem envOK : EnvOK Try.prog Γ := envOK_of allT (fun f p ms args r us h => by cases h) mixed
theorem envB : EnvB Γ T := envB_of allT fun f p args r us h => by cases h
theorem own : ownKnob Try.prog.godebug = none := by kernel_rfl
theorem kids : Kids Try.prog (· < Try.prog.types.size) := kids_rows (by kernel_rfl) (by kernel_rfl)
theorem full : ∀ t e, t < Try.prog.types.size → Try.prog.underlying t = some (.slice e) → 0 < Try.prog.cellsOf e := slices_full_of _ (by kernel_rfl)
theorem ok3 : okT Try.prog 8 3 = true := by kernel_rfl
theorem lt3 : 3 < Try.prog.types.size := of_decide_eq_true (by kernel_rfl)
theorem ok50 : okT Try.prog 8 50 = true := by kernel_rfl
theorem lt50 : 50 < Try.prog.types.size := of_decide_eq_true (by kernel_rfl)
set_option maxRecDepth 1000000 in
theorem iso (vs : List V) (h : TYs Try.prog 8 [3, 50] vs) : IsoOK Try.prog 8 [] vs (.b true) [] := by
  obtain ⟨v0, w0, rfl, h0, v1, w1, rfl, h1, rfl⟩ := h
  obtain ⟨a0, rfl, k0⟩ := (show Dec Try.prog 8 3 _ from dec_i Try.underlying3) _ h0
  obtain ⟨a1, rfl, k1⟩ := (show Dec Try.prog 8 50 _ from dec_L Try.underlying50 (dec_L Try.underlying67 (dec_i Try.underlying3))) _ h1
  exact CALLB_ok envOK envB rfl (by simp only [PurL]; exact ⟨Ror.pur _ h0.ror, Ror.pur _ h1.ror, trivial⟩) (law_FnExactOrderOf a0 a1 k0 k1)
open Go.Proofs.Ytocgmaekciphcaa in
set_option maxRecDepth 100000 in
theorem lifted (os : Os) (started : os.Started) (H : Type) (enc : TypeId × Value → H) :
    ReturnsInHanded {} Try.checked os 8 .any (Rows.fnExactOrderOfSpec.pre6 enc Try.prog Try.f8 Rows.fnExactOrderOfRow.domain false) (Rows.fnExactOrderOfSpec.post enc Try.prog Try.f8 false true false false) := by
  refine returnsInHanded_of_change (C := Try.checked) own started (by kernel_rfl) Try.func8
    (ChangeSpec.witness6 (enc := enc) (C := Try.checked) false ⟨#[], #[.int .i64 0, .slice none 0 0], []⟩ 8 (by kernel_rfl) (by kernel_rfl) (by kernel_rfl) (by kernel_rfl)) ?_
  intro W base args ds gs before hval hW hcnd _
  exact law_post (d := 8) (tb := 4) kids full hval hW rfl (fun ds hd => by
    match ds, hd with
    | [d0, d1], _ => rfl) rfl Try.underlying4 (by
      intro t ht
      have : t = 3 ∨ t = 50 := by simpa [Try.f8] using ht
      rcases this with rfl | rfl
      · exact ⟨ok3, lt3⟩
      · exact ⟨ok50, lt50⟩) iso
end Go.Am
namespace Go.Proofs.Ytocgmaekciphcaa
open Go.Am in
theorem fnExactOrderOf_holds : Rows.FnExactOrderOfSaid :=
  OpenClaim.holds_of_wide 8 Try.f8 rfl rfl rfl rfl rfl rfl rfl ⟨rfl, rfl, rfl, rfl, rfl⟩ rfl rfl rfl rfl rfl (by kernel_rfl) Try.func8 (by kernel_rfl)
    (of_decide_eq_true (by kernel_rfl)) (by unfold Func.isWrapper; first | (rw [if_pos (by decide +kernel)]; kernel_rfl) | (rw [if_neg (by decide +kernel)]; exact ⟨rfl, rfl⟩))
    (fun os started H enc _ => Go.Am.lifted os started H enc)
#print axioms fnExactOrderOf_holds
end Go.Proofs.Ytocgmaekciphcaa
