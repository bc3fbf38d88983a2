/-
  The given law FnExactLargestConsistent holds for every input: it returns true, and its arguments read behind the call as they read before. No conditions.
-/
import Derived.Test.YthpaolkonlhjfaaRows
import Derived.Test.YthpaolkonlhjfaaFnExactLargestConsistentP2
import Derived.ProofKit
set_option linter.all false
set_option maxHeartbeats 1000000
set_option synthInstance.maxSize 1000
namespace Go.Am
open Go.ChangeShapes Go.WideShapes Go.ChangeAt Go.RowKit
open Go.Proofs (Try.prog)
attribute [local irreducible] snapB roT giveB okD free packB
open Go.Proofs
theorem tb11 : Am.tab Try.prog mdT 11 = some c11.er ∧ c11.body.sok = true := ⟨tab_of Try.func11 (by kernel_rfl), by kernel_rfl⟩
theorem tb21 : Am.tab Try.prog mdT 21 = some c21.er ∧ c21.body.sok = true := ⟨tab_of Try.func21 (by kernel_rfl), by kernel_rfl⟩
theorem tb22 : Am.tab Try.prog mdT 22 = some c22.er ∧ c22.body.sok = true := ⟨tab_of Try.func22 (by kernel_rfl), by kernel_rfl⟩
theorem tb26 : Am.tab Try.prog mdT 26 = some c26.er ∧ c26.body.sok = true := ⟨tab_of Try.func26 (by kernel_rfl), by kernel_rfl⟩
theorem tb28 : Am.tab Try.prog mdT 28 = some c28.er ∧ c28.body.sok = true := ⟨tab_of Try.func28 (by kernel_rfl), by kernel_rfl⟩
theorem tb29 : Am.tab Try.prog mdT 29 = some c29.er ∧ c29.body.sok = true := ⟨tab_of Try.func29 (by kernel_rfl), by kernel_rfl⟩
theorem tb32 : Am.tab Try.prog mdT 32 = some c32.er ∧ c32.body.sok = true := ⟨tab_of Try.func32 (by kernel_rfl), by kernel_rfl⟩
theorem tb33 : Am.tab Try.prog mdT 33 = some c33.er ∧ c33.body.sok = true := ⟨tab_of Try.func33 (by kernel_rfl), by kernel_rfl⟩
theorem tb34 : Am.tab Try.prog mdT 34 = some c34.er ∧ c34.body.sok = true := ⟨tab_of Try.func34 (by kernel_rfl), by kernel_rfl⟩
theorem tb45 : Am.tab Try.prog mdT 45 = some c45.er ∧ c45.body.sok = true := ⟨tab_of Try.func45 (by kernel_rfl), by kernel_rfl⟩
theorem tb46 : Am.tab Try.prog mdT 46 = some c46.er ∧ c46.body.sok = true := ⟨tab_of Try.func46 (by kernel_rfl), by kernel_rfl⟩
theorem tb47 : Am.tab Try.prog mdT 47 = some c47.er ∧ c47.body.sok = true := ⟨tab_of Try.func47 (by kernel_rfl), by kernel_rfl⟩
theorem tb48 : Am.tab Try.prog mdT 48 = some c48.er ∧ c48.body.sok = true := ⟨tab_of Try.func48 (by kernel_rfl), by kernel_rfl⟩
theorem tb49 : Am.tab Try.prog mdT 49 = some c49.er ∧ c49.body.sok = true := ⟨tab_of Try.func49 (by kernel_rfl), by kernel_rfl⟩
theorem tb50 : Am.tab Try.prog mdT 50 = some c50.er ∧ c50.body.sok = true := ⟨tab_of Try.func50 (by kernel_rfl), by kernel_rfl⟩
theorem tb54 : Am.tab Try.prog mdT 54 = some c54.er ∧ c54.body.sok = true := ⟨tab_of Try.func54 (by kernel_rfl), by kernel_rfl⟩
theorem tb55 : Am.tab Try.prog mdT 55 = some c55.er ∧ c55.body.sok = true := ⟨tab_of Try.func55 (by kernel_rfl), by kernel_rfl⟩
theorem tb64 : Am.tab Try.prog mdT 64 = some c64.er ∧ c64.body.sok = true := ⟨tab_of Try.func64 (by kernel_rfl), by kernel_rfl⟩
theorem tb65 : Am.tab Try.prog mdT 65 = some c65.er ∧ c65.body.sok = true := ⟨tab_of Try.func65 (by kernel_rfl), by kernel_rfl⟩
theorem tb66 : Am.tab Try.prog mdT 66 = some c66.er ∧ c66.body.sok = true := ⟨tab_of Try.func66 (by kernel_rfl), by kernel_rfl⟩
theorem tb69 : Am.tab Try.prog mdT 69 = some c69.er ∧ c69.body.sok = true := ⟨tab_of Try.func69 (by kernel_rfl), by kernel_rfl⟩
theorem tb70 : Am.tab Try.prog mdT 70 = some c70.er ∧ c70.body.sok = true := ⟨tab_of Try.func70 (by kernel_rfl), by kernel_rfl⟩
theorem tb71 : Am.tab Try.prog mdT 71 = some c71.er ∧ c71.body.sok = true := ⟨tab_of Try.func71 (by kernel_rfl), by kernel_rfl⟩
theorem tb73 : Am.tab Try.prog mdT 73 = some c73.er ∧ c73.body.sok = true := ⟨tab_of Try.func73 (by kernel_rfl), by kernel_rfl⟩
theorem tb74 : Am.tab Try.prog mdT 74 = some c74.er ∧ c74.body.sok = true := ⟨tab_of Try.func74 (by kernel_rfl), by kernel_rfl⟩
theorem tb76 : Am.tab Try.prog mdT 76 = some c76.er ∧ c76.body.sok = true := ⟨tab_of Try.func76 (by kernel_rfl), by kernel_rfl⟩
theorem tb77 : Am.tab Try.prog mdT 77 = some c77.er ∧ c77.body.sok = true := ⟨tab_of Try.func77 (by kernel_rfl), by kernel_rfl⟩
theorem tb78 : Am.tab Try.prog mdT 78 = some c78.er ∧ c78.body.sok = true := ⟨tab_of Try.func78 (by kernel_rfl), by kernel_rfl⟩
theorem tb82 : Am.tab Try.prog mdT 82 = some c82.er ∧ c82.body.sok = true := ⟨tab_of Try.func82 (by kernel_rfl), by kernel_rfl⟩
theorem tb83 : Am.tab Try.prog mdT 83 = some c83.er ∧ c83.body.sok = true := ⟨tab_of Try.func83 (by kernel_rfl), by kernel_rfl⟩
theorem tb84 : Am.tab Try.prog mdT 84 = some c84.er ∧ c84.body.sok = true := ⟨tab_of Try.func84 (by kernel_rfl), by kernel_rfl⟩
theorem tb85 : Am.tab Try.prog mdT 85 = some c85.er ∧ c85.body.sok = true := ⟨tab_of Try.func85 (by kernel_rfl), by kernel_rfl⟩
theorem tb90 : Am.tab Try.prog mdT 90 = some c90.er ∧ c90.body.sok = true := ⟨tab_of Try.func90 (by kernel_rfl), by kernel_rfl⟩
theorem tb91 : Am.tab Try.prog mdT 91 = some c91.er ∧ c91.body.sok = true := ⟨tab_of Try.func91 (by kernel_rfl), by kernel_rfl⟩
theorem tb94 : Am.tab Try.prog mdT 94 = some c94.er ∧ c94.body.sok = true := ⟨tab_of Try.func94 (by kernel_rfl), by kernel_rfl⟩
theorem tb99 : Am.tab Try.prog mdT 99 = some c99.er ∧ c99.body.sok = true := ⟨tab_of Try.func99 (by kernel_rfl), by kernel_rfl⟩
theorem tb100 : Am.tab Try.prog mdT 100 = some c100.er ∧ c100.body.sok = true := ⟨tab_of Try.func100 (by kernel_rfl), by kernel_rfl⟩
theorem tb101 : Am.tab Try.prog mdT 101 = some c101.er ∧ c101.body.sok = true := ⟨tab_of Try.func101 (by kernel_rfl), by kernel_rfl⟩
theorem tb102 : Am.tab Try.prog mdT 102 = some c102.er ∧ c102.body.sok = true := ⟨tab_of Try.func102 (by kernel_rfl), by kernel_rfl⟩
theorem tb103 : Am.tab Try.prog mdT 103 = some c103.er ∧ c103.body.sok = true := ⟨tab_of Try.func103 (by kernel_rfl), by kernel_rfl⟩
theorem tb104 : Am.tab Try.prog mdT 104 = some c104.er ∧ c104.body.sok = true := ⟨tab_of Try.func104 (by kernel_rfl), by kernel_rfl⟩
theorem tb105 : Am.tab Try.prog mdT 105 = some c105.er ∧ c105.body.sok = true := ⟨tab_of Try.func105 (by kernel_rfl), by kernel_rfl⟩
theorem tb106 : Am.tab Try.prog mdT 106 = some c106.er ∧ c106.body.sok = true := ⟨tab_of Try.func106 (by kernel_rfl), by kernel_rfl⟩
theorem tb107 : Am.tab Try.prog mdT 107 = some c107.er ∧ c107.body.sok = true := ⟨tab_of Try.func107 (by kernel_rfl), by kernel_rfl⟩
theorem tb117 : Am.tab Try.prog mdT 117 = some c117.er ∧ c117.body.sok = true := ⟨tab_of Try.func117 (by kernel_rfl), by kernel_rfl⟩
theorem tb118 : Am.tab Try.prog mdT 118 = some c118.er ∧ c118.body.sok = true := ⟨tab_of Try.func118 (by kernel_rfl), by kernel_rfl⟩
theorem allT : AllT Try.prog mdT TL := ⟨tb11, tb21, tb22, tb26, tb28, tb29, tb32, tb33, tb34, tb45, tb46, tb47, tb48, tb49, tb50, tb54, tb55, tb64, tb65, tb66, tb69, tb70, tb71, tb73, tb74, tb76, tb77, tb78, tb82, tb83, tb84, tb85, tb90, tb91, tb94, tb99, tb100, tb101, tb102, tb103, tb104, tb105, tb106, tb107, tb117, tb118, trivial⟩
theorem mixed : Try.prog.follows .mixedOrders = true := by kernel_rfl
theorem envOK : EnvOK Try.prog Γ := envOK_of allT (fun f p ms args r us h => by cases h) mixed
theorem envB : EnvB Γ T := envB_of allT fun f p args r us h => by cases h
theorem own : ownKnob Try.prog.godebug = none := by kernel_rfl
theorem kids : Kids Try.prog (· < Try.prog.types.size) := kids_rows (by kernel_rfl) (by kernel_rfl)
theorem full : ∀ t e, t < Try.prog.types.size → Try.prog.underlying t = some (.slice e) → 0 < Try.prog.cellsOf e := slices_full_of _ (by kernel_rfl)
theorem ok3 : okT Try.prog 8 3 = true := by kernel_rfl
theorem lt3 : 3 < Try.prog.types.size := of_decide_eq_true (by kernel_rfl)
theorem ok39 : okT Try.prog 8 39 = true := by kernel_rfl
theorem lt39 : 39 < Try.prog.types.size := of_decide_eq_true (by kernel_rfl)
set_option maxRecDepth 1000000 in
theorem iso (vs : List V) (h : TYs Try.prog 8 [39, 3] vs) : IsoOK Try.prog 11 [] vs (.b true) [] := by
  obtain ⟨v0, w0, rfl, h0, v1, w1, rfl, h1, rfl⟩ := h
  obtain ⟨a0, rfl, k0⟩ := (show Dec Try.prog 8 39 _ from dec_L Try.underlying39 (dec_1 Try.underlying81 rfl (dec_L Try.underlying27 (dec_i Try.underlying3)))) _ h0
  obtain ⟨a1, rfl, k1⟩ := (show Dec Try.prog 8 3 _ from dec_i Try.underlying3) _ h1
  exact CALLB_ok envOK envB rfl (by simp only [PurL]; exact ⟨Ror.pur _ h0.ror, Ror.pur _ h1.ror, trivial⟩) (law_FnExactLargestConsistent a0 a1 k0 k1)
open Go.Proofs.Ythpaolkonlhjfaa in
set_option maxRecDepth 100000 in
theorem lifted (os : Os) (started : os.Started) (H : Type) (enc : TypeId × Value → H) :
    ReturnsInHanded {} Try.checked os 11 .any (Rows.fnExactLargestConsistentSpec.pre6 enc Try.prog Try.f11 Rows.fnExactLargestConsistentRow.domain false) (Rows.fnExactLargestConsistentSpec.post enc Try.prog Try.f11 false true false false) := by
  refine returnsInHanded_of_change (C := Try.checked) own started (by kernel_rfl) Try.func11
    (ChangeSpec.witness6 (enc := enc) (C := Try.checked) false ⟨#[], #[.slice none 0 0, .int .i64 0], []⟩ 8 (by kernel_rfl) (by kernel_rfl) (by kernel_rfl) (by kernel_rfl)) ?_
  intro W base args ds gs before hval hW hcnd _
  exact law_post (d := 8) (tb := 4) kids full hval hW rfl (fun ds hd => by
    match ds, hd with
    | [d0, d1], _ => rfl) rfl Try.underlying4 (by
      intro t ht
      have : t = 39 ∨ t = 3 := by simpa [Try.f11] using ht
      rcases this with rfl | rfl
      · exact ⟨ok39, lt39⟩
      · exact ⟨ok3, lt3⟩) iso
end Go.Am
namespace Go.Proofs.Ythpaolkonlhjfaa
open Go.Am in
theorem fnExactLargestConsistent_holds : Rows.FnExactLargestConsistentSaid :=
  OpenClaim.holds_of_wide 11 Try.f11 rfl rfl rfl rfl rfl rfl rfl ⟨rfl, rfl, rfl, rfl, rfl⟩ rfl rfl rfl rfl rfl (by kernel_rfl) Try.func11 (by kernel_rfl)
    (of_decide_eq_true (by kernel_rfl)) (by unfold Func.isWrapper; first | (rw [if_pos (by decide +kernel)]; kernel_rfl) | (rw [if_neg (by decide +kernel)]; exact ⟨rfl, rfl⟩))
    (fun os started H enc _ => Go.Am.lifted os started H enc)
#print axioms fnExactLargestConsistent_holds
end Go.Proofs.Ythpaolkonlhjfaa
