/-
  The given law FnExactCoverPairs holds for every input: it returns true, and its arguments read behind the call as they read before. No conditions.
-/
import Derived.Test.YtocgmaekciphcaaRows
import Derived.Test.YtocgmaekciphcaaFnExactCoverPairsP1
import Derived.ProofKit
set_option linter.all false
set_option maxHeartbeats 1000000
set_option synthInstance.maxSize 1000
namespace Go.Am
open Go.ChangeShapes Go.WideShapes Go.ChangeAt Go.RowKit
open Go.Proofs (Try.prog)
attribute [local irreducible] snapB roT giveB okD free packB
open Go.Proofs
theorem tb7 : Am.tab Try.prog mdT 7 = some c7.er ∧ c7.body.sok = true := ⟨tab_of Try.func7 (by kernel_rfl), by kernel_rfl⟩
theorem tb9 : Am.tab Try.prog mdT 9 = some c9.er ∧ c9.body.sok = true := ⟨tab_of Try.func9 (by kernel_rfl), by kernel_rfl⟩
theorem tb11 : Am.tab Try.prog mdT 11 = some c11.er ∧ c11.body.sok = true := ⟨tab_of Try.func11 (by kernel_rfl), by kernel_rfl⟩
theorem tb13 : Am.tab Try.prog mdT 13 = some c13.er ∧ c13.body.sok = true := ⟨tab_of Try.func13 (by kernel_rfl), by kernel_rfl⟩
theorem tb14 : Am.tab Try.prog mdT 14 = some c14.er ∧ c14.body.sok = true := ⟨tab_of Try.func14 (by kernel_rfl), by kernel_rfl⟩
theorem tb15 : Am.tab Try.prog mdT 15 = some c15.er ∧ c15.body.sok = true := ⟨tab_of Try.func15 (by kernel_rfl), by kernel_rfl⟩
theorem tb29 : Am.tab Try.prog mdT 29 = some c29.er ∧ c29.body.sok = true := ⟨tab_of Try.func29 (by kernel_rfl), by kernel_rfl⟩
theorem tb30 : Am.tab Try.prog mdT 30 = some c30.er ∧ c30.body.sok = true := ⟨tab_of Try.func30 (by kernel_rfl), by kernel_rfl⟩
theorem tb31 : Am.tab Try.prog mdT 31 = some c31.er ∧ c31.body.sok = true := ⟨tab_of Try.func31 (by kernel_rfl), by kernel_rfl⟩
theorem tb32 : Am.tab Try.prog mdT 32 = some c32.er ∧ c32.body.sok = true := ⟨tab_of Try.func32 (by kernel_rfl), by kernel_rfl⟩
theorem tb33 : Am.tab Try.prog mdT 33 = some c33.er ∧ c33.body.sok = true := ⟨tab_of Try.func33 (by kernel_rfl), by kernel_rfl⟩
theorem tb34 : Am.tab Try.prog mdT 34 = some c34.er ∧ c34.body.sok = true := ⟨tab_of Try.func34 (by kernel_rfl), by kernel_rfl⟩
theorem tb40 : Am.tab Try.prog mdT 40 = some c40.er ∧ c40.body.sok = true := ⟨tab_of Try.func40 (by kernel_rfl), by kernel_rfl⟩
theorem tb41 : Am.tab Try.prog mdT 41 = some c41.er ∧ c41.body.sok = true := ⟨tab_of Try.func41 (by kernel_rfl), by kernel_rfl⟩
theorem tb45 : Am.tab Try.prog mdT 45 = some c45.er ∧ c45.body.sok = true := ⟨tab_of Try.func45 (by kernel_rfl), by kernel_rfl⟩
theorem tb46 : Am.tab Try.prog mdT 46 = some c46.er ∧ c46.body.sok = true := ⟨tab_of Try.func46 (by kernel_rfl), by kernel_rfl⟩
theorem tb47 : Am.tab Try.prog mdT 47 = some c47.er ∧ c47.body.sok = true := ⟨tab_of Try.func47 (by kernel_rfl), by kernel_rfl⟩
theorem tb61 : Am.tab Try.prog mdT 61 = some c61.er ∧ c61.body.sok = true := ⟨tab_of Try.func61 (by kernel_rfl), by kernel_rfl⟩
theorem tb62 : Am.tab Try.prog mdT 62 = some c62.er ∧ c62.body.sok = true := ⟨tab_of Try.func62 (by kernel_rfl), by kernel_rfl⟩
theorem tb63 : Am.tab Try.prog mdT 63 = some c63.er ∧ c63.body.sok = true := ⟨tab_of Try.func63 (by kernel_rfl), by kernel_rfl⟩
theorem tb64 : Am.tab Try.prog mdT 64 = some c64.er ∧ c64.body.sok = true := ⟨tab_of Try.func64 (by kernel_rfl), by kernel_rfl⟩
theorem tb69 : Am.tab Try.prog mdT 69 = some c69.er ∧ c69.body.sok = true := ⟨tab_of Try.func69 (by kernel_rfl), by kernel_rfl⟩
theorem tb70 : Am.tab Try.prog mdT 70 = some c70.er ∧ c70.body.sok = true := ⟨tab_of Try.func70 (by kernel_rfl), by kernel_rfl⟩
theorem tb71 : Am.tab Try.prog mdT 71 = some c71.er ∧ c71.body.sok = true := ⟨tab_of Try.func71 (by kernel_rfl), by kernel_rfl⟩
theorem tb77 : Am.tab Try.prog mdT 77 = some c77.er ∧ c77.body.sok = true := ⟨tab_of Try.func77 (by kernel_rfl), by kernel_rfl⟩
theorem allT : AllT Try.prog mdT TL := ⟨tb7, tb9, tb11, tb13, tb14, tb15, tb29, tb30, tb31, tb32, tb33, tb34, tb40, tb41, tb45, tb46, tb47, tb61, tb62, tb63, tb64, tb69, tb70, tb71, tb77, trivial⟩
theorem mixed : Try.prog.follows .mixedOrders = true := by kernel_rfl
theorem envOK : EnvOK Try.prog Γ := envOK_of allT (fun f p ms args r us h => by cases h) mixed
theorem envB : EnvB Γ T := envB_of allT fun f p args r us h => by cases h
theorem own : ownKnob Try.prog.godebug = none := by kernel_rfl
theorem kids : Kids Try.prog (· < Try.prog.types.size) := kids_rows (by kernel_rfl) (by kernel_rfl)
theorem full : ∀ t e, t < Try.prog.types.size → Try.prog.underlying t = some (.slice e) → 0 < Try.prog.cellsOf e := slices_full_of _ (by kernel_rfl)
theorem ok24 : okT Try.prog 8 24 = true := by kernel_rfl
theorem lt24 : 24 < Try.prog.types.size := of_decide_eq_true (by kernel_rfl)
set_option maxRecDepth 1000000 in
theorem iso (vs : List V) (h : TYs Try.prog 8 [24] vs) : IsoOK Try.prog 7 [] vs (.b true) [] := by
  obtain ⟨v0, w0, rfl, h0, rfl⟩ := h
  obtain ⟨a0, rfl, k0⟩ := (show Dec Try.prog 8 24 _ from dec_2 Try.underlying24 rfl (dec_i Try.underlying3) (dec_L Try.underlying22 (dec_L Try.underlying60 (dec_b Try.underlying4)))) _ h0
  exact CALLB_ok envOK envB rfl (by simp only [PurL]; exact ⟨Ror.pur _ h0.ror, trivial⟩) (law_FnExactCoverPairs a0 k0)
open Go.Proofs.Ytocgmaekciphcaa in
set_option maxRecDepth 100000 in
theorem lifted (os : Os) (started : os.Started) (H : Type) (enc : TypeId × Value → H) :
    ReturnsInHanded {} Try.checked os 7 .any (Rows.fnExactCoverPairsSpec.pre6 enc Try.prog Try.f7 Rows.fnExactCoverPairsRow.domain false) (Rows.fnExactCoverPairsSpec.post enc Try.prog Try.f7 false true false false) := by
  refine returnsInHanded_of_change (C := Try.checked) own started (by kernel_rfl) Try.func7
    (ChangeSpec.witness6 (enc := enc) (C := Try.checked) false ⟨#[], #[.agg #[.int .i64 0, .slice none 0 0]], []⟩ 8 (by kernel_rfl) (by kernel_rfl) (by kernel_rfl) (by kernel_rfl)) ?_
  intro W base args ds gs before hval hW hcnd _
  exact law_post (d := 8) (tb := 4) kids full hval hW rfl (fun ds hd => by
    match ds, hd with
    | [d0], _ => rfl) rfl Try.underlying4 (by
      intro t ht
      have : t = 24 := by simpa [Try.f7] using ht
      rcases this with rfl
      · exact ⟨ok24, lt24⟩) iso
end Go.Am
namespace Go.Proofs.Ytocgmaekciphcaa
open Go.Am in
theorem fnExactCoverPairs_holds : Rows.FnExactCoverPairsSaid :=
  OpenClaim.holds_of_wide 7 Try.f7 rfl rfl rfl rfl rfl rfl rfl ⟨rfl, rfl, rfl, rfl, rfl⟩ rfl rfl rfl rfl rfl (by kernel_rfl) Try.func7 (by kernel_rfl)
    (of_decide_eq_true (by kernel_rfl)) (by unfold Func.isWrapper; first | (rw [if_pos (by decide +kernel)]; kernel_rfl) | (rw [if_neg (by decide +kernel)]; exact ⟨rfl, rfl⟩))
    (fun os started H enc _ => Go.Am.lifted os started H enc)
#print axioms fnExactCoverPairs_holds
end Go.Proofs.Ytocgmaekciphcaa
