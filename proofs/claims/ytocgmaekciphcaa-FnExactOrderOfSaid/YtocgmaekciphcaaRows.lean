/-
  No cell of these rows narrows 'for every input' (looked for: loops, veiled, ifaces, maps, wideKeys, modest, calm, conditions, laid).
  DERIVED. THE GIVEN ROWS OF THIS SEAT. 6 by the template 'for every input the law returns true; each argument reads behind the call as it read before'; 0 by the template 'total and deterministic' (their statements: YtocgmaekciphcaaTotals.lean).
  GIVEN WITH THE SEED: the statements are not yours to turn. If you find one false, say at which input.
  Laid BY PROGRAM, IN A SANDBOX (cutbox-rows.mjs): the forced cells as the released guide's own fill.sh prints them over the translation a34c5293499c2546… (all of the seat's roots in one cut). By AI agents, Wed Nov 11 2026. No macro, syntax, notation, axiom, sorry.
-/
import Derived.Test.YtocgmaekciphcaaChecked
import GoSem.Claim
import GoSem.ClaimJoined
import GoSem.ClaimMapViews
import Derived.JoinedTies
import Derived.KernelRfl
namespace Go.Proofs.Ytocgmaekciphcaa
/- THE CELL 'sum', in the pinned program and in every row, IS THE sha256 OF THE DUMP (.gsa) THAT YtocgmaekciphcaaProg.lean LOADS. Nothing in Lean hashes anything: it is a label: what it is worth is what the hold of that sum in a sandbox is worth. -/
noncomputable def Try.pinned : Pinned := { name := "ytocgmaekciphcaa", sum := "a34c5293499c25461890070db8cfd30885ff39056ea08501f24b17e5def26229", checked := Try.checked }
namespace Rows
def none {H : Type} : Left H := { results := [], args := [] }

/-- 'laws.FnExactEqualOrders': WHATEVER THE INPUT: true; the input reads as it did. -/
def fnExactEqualOrdersSpec : ChangeSpec := { name := "fnExactEqualOrders", fn := fun _ => fun
  | [d1, d2] => { results := [.lit (.bool true)], args := [d1, d2] }
  | _ => none }
def fnExactEqualOrdersRow : OpenClaim := { program := "ytocgmaekciphcaa", sum := "a34c5293499c25461890070db8cfd30885ff39056ea08501f24b17e5def26229", func := "loop.example/g02080/laws.FnExactEqualOrders", spec := "fnExactEqualOrders", unfollowed := true, recurses := true, apart := false }
def FnExactEqualOrdersSaid : Prop := fnExactEqualOrdersRow.holds Try.pinned (OpenSpec.ofChange fnExactEqualOrdersSpec)

/-- ITS FALSE NEIGHBOUR: 'it returns false'. Refute it at one input. -/
def fnExactEqualOrdersWrong : ChangeSpec := { name := "fnExactEqualOrders", fn := fun _ => fun
  | [d1, d2] => { results := [.lit (.bool false)], args := [d1, d2] }
  | _ => none }
def FnExactEqualOrdersWrongFalsely : Prop := fnExactEqualOrdersRow.holds Try.pinned (OpenSpec.ofChange fnExactEqualOrdersWrong)

/-- 'laws.FnExactIsOrder': WHATEVER THE INPUT: true; the input reads as it did. -/
def fnExactIsOrderSpec : ChangeSpec := { name := "fnExactIsOrder", fn := fun _ => fun
  | [d] => { results := [.lit (.bool true)], args := [d] }
  | _ => none }
def fnExactIsOrderRow : OpenClaim := { program := "ytocgmaekciphcaa", sum := "a34c5293499c25461890070db8cfd30885ff39056ea08501f24b17e5def26229", func := "loop.example/g02080/laws.FnExactIsOrder", spec := "fnExactIsOrder", apart := false }
def FnExactIsOrderSaid : Prop := fnExactIsOrderRow.holds Try.pinned (OpenSpec.ofChange fnExactIsOrderSpec)

/-- ITS FALSE NEIGHBOUR: 'it returns false'. Refute it at one input. -/
def fnExactIsOrderWrong : ChangeSpec := { name := "fnExactIsOrder", fn := fun _ => fun
  | [d] => { results := [.lit (.bool false)], args := [d] }
  | _ => none }
def FnExactIsOrderWrongFalsely : Prop := fnExactIsOrderRow.holds Try.pinned (OpenSpec.ofChange fnExactIsOrderWrong)

/-- 'laws.FnExactFindLanguage': WHATEVER THE INPUT: true; the input reads as it did. -/
def fnExactFindLanguageSpec : ChangeSpec := { name := "fnExactFindLanguage", fn := fun _ => fun
  | [d1, d2] => { results := [.lit (.bool true)], args := [d1, d2] }
  | _ => none }
def fnExactFindLanguageRow : OpenClaim := { program := "ytocgmaekciphcaa", sum := "a34c5293499c25461890070db8cfd30885ff39056ea08501f24b17e5def26229", func := "loop.example/g02080/laws.FnExactFindLanguage", spec := "fnExactFindLanguage", unfollowed := true, recurses := true, apart := false }
def FnExactFindLanguageSaid : Prop := fnExactFindLanguageRow.holds Try.pinned (OpenSpec.ofChange fnExactFindLanguageSpec)

/-- ITS FALSE NEIGHBOUR: 'it returns false'. Refute it at one input. -/
def fnExactFindLanguageWrong : ChangeSpec := { name := "fnExactFindLanguage", fn := fun _ => fun
  | [d1, d2] => { results := [.lit (.bool false)], args := [d1, d2] }
  | _ => none }
def FnExactFindLanguageWrongFalsely : Prop := fnExactFindLanguageRow.holds Try.pinned (OpenSpec.ofChange fnExactFindLanguageWrong)

/-- 'laws.FnExactFormatRows': WHATEVER THE INPUT: true; the input reads as it did. -/
def fnExactFormatRowsSpec : ChangeSpec := { name := "fnExactFormatRows", fn := fun _ => fun
  | [d] => { results := [.lit (.bool true)], args := [d] }
  | _ => none }
def fnExactFormatRowsRow : OpenClaim := { program := "ytocgmaekciphcaa", sum := "a34c5293499c25461890070db8cfd30885ff39056ea08501f24b17e5def26229", func := "loop.example/g02080/laws.FnExactFormatRows", spec := "fnExactFormatRows", inPlace := ["internal/abi.NoEscape", "internal/bytealg.MakeNoZero"], apart := false }
def FnExactFormatRowsSaid : Prop := fnExactFormatRowsRow.holds Try.pinned (OpenSpec.ofChange fnExactFormatRowsSpec)

/-- ITS FALSE NEIGHBOUR: 'it returns false'. Refute it at one input. -/
def fnExactFormatRowsWrong : ChangeSpec := { name := "fnExactFormatRows", fn := fun _ => fun
  | [d] => { results := [.lit (.bool false)], args := [d] }
  | _ => none }
def FnExactFormatRowsWrongFalsely : Prop := fnExactFormatRowsRow.holds Try.pinned (OpenSpec.ofChange fnExactFormatRowsWrong)

/-- 'laws.FnExactCoverPairs': WHATEVER THE INPUT: true; the input reads as it did. -/
def fnExactCoverPairsSpec : ChangeSpec := { name := "fnExactCoverPairs", fn := fun _ => fun
  | [d] => { results := [.lit (.bool true)], args := [d] }
  | _ => none }
def fnExactCoverPairsRow : OpenClaim := { program := "ytocgmaekciphcaa", sum := "a34c5293499c25461890070db8cfd30885ff39056ea08501f24b17e5def26229", func := "loop.example/g02080/laws.FnExactCoverPairs", spec := "fnExactCoverPairs", apart := false }
def FnExactCoverPairsSaid : Prop := fnExactCoverPairsRow.holds Try.pinned (OpenSpec.ofChange fnExactCoverPairsSpec)

/-- ITS FALSE NEIGHBOUR: 'it returns false'. Refute it at one input. -/
def fnExactCoverPairsWrong : ChangeSpec := { name := "fnExactCoverPairs", fn := fun _ => fun
  | [d] => { results := [.lit (.bool false)], args := [d] }
  | _ => none }
def FnExactCoverPairsWrongFalsely : Prop := fnExactCoverPairsRow.holds Try.pinned (OpenSpec.ofChange fnExactCoverPairsWrong)

/-- 'laws.FnExactOrderOf': WHATEVER THE INPUT: true; the input reads as it did. -/
def fnExactOrderOfSpec : ChangeSpec := { name := "fnExactOrderOf", fn := fun _ => fun
  | [d1, d2] => { results := [.lit (.bool true)], args := [d1, d2] }
  | _ => none }
def fnExactOrderOfRow : OpenClaim := { program := "ytocgmaekciphcaa", sum := "a34c5293499c25461890070db8cfd30885ff39056ea08501f24b17e5def26229", func := "loop.example/g02080/laws.FnExactOrderOf", spec := "fnExactOrderOf", apart := false }
def FnExactOrderOfSaid : Prop := fnExactOrderOfRow.holds Try.pinned (OpenSpec.ofChange fnExactOrderOfSpec)

/-- ITS FALSE NEIGHBOUR: 'it returns false'. Refute it at one input. -/
def fnExactOrderOfWrong : ChangeSpec := { name := "fnExactOrderOf", fn := fun _ => fun
  | [d1, d2] => { results := [.lit (.bool false)], args := [d1, d2] }
  | _ => none }
def FnExactOrderOfWrongFalsely : Prop := fnExactOrderOfRow.holds Try.pinned (OpenSpec.ofChange fnExactOrderOfWrong)

/- THE SECOND FORM. 'bulk': how many values and letters a reading holds, each counted each time it is reached (what is shared counts as often as it is met; a slice's spare places count too). A statement '..UptoSaid' is the law's where the arguments, and the package variables that the reading takes, are together of bulk at most 1048576: NARROWER than '..Said'. Prove '..Said' where nothing that the law and all that it calls make is longer than what came in: it says more and counts as full. Else prove '..UptoSaid'. A law counts once. -/
mutual
def uptoBulk {H : Type} : DataW H → Nat
  | .lit (.string bytes) => bytes.length + 1
  | .lit _ => 1
  | .nil => 1
  | .ptr d => uptoBulk d + 1
  | .slice elems spare => uptoBulkAll elems + uptoBulkAll spare + 1
  | .agg parts => uptoBulkAll parts + 1
  | .iface _ d => uptoBulk d + 1
  | .map entries => uptoBulkEntries entries + 1
  | .held _ => 1
def uptoBulkAll {H : Type} : List (DataW H) → Nat
  | [] => 0
  | d :: r => uptoBulk d + uptoBulkAll r
def uptoBulkEntries {H : Type} : List (Lit × DataW H) → Nat
  | [] => 0
  | x :: r => uptoBulkEntry x + uptoBulkEntries r
def uptoBulkEntry {H : Type} : Lit × DataW H → Nat
  | (.string bytes, d) => bytes.length + uptoBulk d + 1
  | (_, d) => uptoBulk d + 1
 end
def uptoSmall : (H : Type) → List (DataW H) → Bool := fun _ ds => decide (uptoBulkAll ds ≤ 1048576)
def OpenSpec.upto (s : _root_.Go.ChangeSpec) : _root_.Go.OpenSpec := { _root_.Go.OpenSpec.ofChange s with cond := some uptoSmall }

/-- 'laws.FnExactEqualOrders', WHERE WHAT IT READS IS OF BULK AT MOST 1048576: true; the input reads as it did. -/
def fnExactEqualOrdersUptoRow : OpenClaim := { program := "ytocgmaekciphcaa", sum := "a34c5293499c25461890070db8cfd30885ff39056ea08501f24b17e5def26229", func := "loop.example/g02080/laws.FnExactEqualOrders", spec := "fnExactEqualOrders", unfollowed := true, recurses := true, apart := false, narrowed := true }
def FnExactEqualOrdersUptoSaid : Prop := fnExactEqualOrdersUptoRow.holds Try.pinned (OpenSpec.upto fnExactEqualOrdersSpec)

/-- 'laws.FnExactIsOrder', WHERE WHAT IT READS IS OF BULK AT MOST 1048576: true; the input reads as it did. -/
def fnExactIsOrderUptoRow : OpenClaim := { program := "ytocgmaekciphcaa", sum := "a34c5293499c25461890070db8cfd30885ff39056ea08501f24b17e5def26229", func := "loop.example/g02080/laws.FnExactIsOrder", spec := "fnExactIsOrder", apart := false, narrowed := true }
def FnExactIsOrderUptoSaid : Prop := fnExactIsOrderUptoRow.holds Try.pinned (OpenSpec.upto fnExactIsOrderSpec)

/-- 'laws.FnExactFindLanguage', WHERE WHAT IT READS IS OF BULK AT MOST 1048576: true; the input reads as it did. -/
def fnExactFindLanguageUptoRow : OpenClaim := { program := "ytocgmaekciphcaa", sum := "a34c5293499c25461890070db8cfd30885ff39056ea08501f24b17e5def26229", func := "loop.example/g02080/laws.FnExactFindLanguage", spec := "fnExactFindLanguage", unfollowed := true, recurses := true, apart := false, narrowed := true }
def FnExactFindLanguageUptoSaid : Prop := fnExactFindLanguageUptoRow.holds Try.pinned (OpenSpec.upto fnExactFindLanguageSpec)

/-- 'laws.FnExactFormatRows', WHERE WHAT IT READS IS OF BULK AT MOST 1048576: true; the input reads as it did. -/
def fnExactFormatRowsUptoRow : OpenClaim := { program := "ytocgmaekciphcaa", sum := "a34c5293499c25461890070db8cfd30885ff39056ea08501f24b17e5def26229", func := "loop.example/g02080/laws.FnExactFormatRows", spec := "fnExactFormatRows", inPlace := ["internal/abi.NoEscape", "internal/bytealg.MakeNoZero"], apart := false, narrowed := true }
def FnExactFormatRowsUptoSaid : Prop := fnExactFormatRowsUptoRow.holds Try.pinned (OpenSpec.upto fnExactFormatRowsSpec)

/-- 'laws.FnExactCoverPairs', WHERE WHAT IT READS IS OF BULK AT MOST 1048576: true; the input reads as it did. -/
def fnExactCoverPairsUptoRow : OpenClaim := { program := "ytocgmaekciphcaa", sum := "a34c5293499c25461890070db8cfd30885ff39056ea08501f24b17e5def26229", func := "loop.example/g02080/laws.FnExactCoverPairs", spec := "fnExactCoverPairs", apart := false, narrowed := true }
def FnExactCoverPairsUptoSaid : Prop := fnExactCoverPairsUptoRow.holds Try.pinned (OpenSpec.upto fnExactCoverPairsSpec)

/-- 'laws.FnExactOrderOf', WHERE WHAT IT READS IS OF BULK AT MOST 1048576: true; the input reads as it did. -/
def fnExactOrderOfUptoRow : OpenClaim := { program := "ytocgmaekciphcaa", sum := "a34c5293499c25461890070db8cfd30885ff39056ea08501f24b17e5def26229", func := "loop.example/g02080/laws.FnExactOrderOf", spec := "fnExactOrderOf", apart := false, narrowed := true }
def FnExactOrderOfUptoSaid : Prop := fnExactOrderOfUptoRow.holds Try.pinned (OpenSpec.upto fnExactOrderOfSpec)

end Rows
end Go.Proofs.Ytocgmaekciphcaa
