/-
  No cell of these rows narrows 'for every input' (looked for: loops, veiled, ifaces, maps, wideKeys, modest, calm, conditions, laid).
  DERIVED. THE GIVEN ROWS OF THIS SEAT. 11 by the template 'for every input the law returns true; each argument reads behind the call as it read before'; 0 by the template 'total and deterministic' (their statements: YthpaolkonlhjfaaTotals.lean).
  GIVEN WITH THE SEED: the statements are not yours to turn. If you find one false, say at which input.
  Laid BY PROGRAM, IN A SANDBOX (cutbox-rows.mjs): the forced cells as the released guide's own fill.sh prints them over the translation 03da6b2a83838e8e… (all of the seat's roots in one cut). By AI agents, Wed Nov 11 2026. No macro, syntax, notation, axiom, sorry.
-/
import Derived.Test.YthpaolkonlhjfaaChecked
import GoSem.Claim
import GoSem.ClaimJoined
import GoSem.ClaimMapViews
import Derived.JoinedTies
import Derived.KernelRfl
namespace Go.Proofs.Ythpaolkonlhjfaa
/- THE CELL 'sum', in the pinned program and in every row, IS THE sha256 OF THE DUMP (.gsa) THAT YthpaolkonlhjfaaProg.lean LOADS. Nothing in Lean hashes anything: it is a label: what it is worth is what the hold of that sum in a sandbox is worth. -/
noncomputable def Try.pinned : Pinned := { name := "ythpaolkonlhjfaa", sum := "03da6b2a83838e8ecdf3a99091efa4766c5dbe73ce220c3f35b7af62b0b7c862", checked := Try.checked }
namespace Rows
def none {H : Type} : Left H := { results := [], args := [] }

/-- 'laws.FnClashes': WHATEVER THE INPUT: true; the input reads as it did. -/
def fnClashesSpec : ChangeSpec := { name := "fnClashes", fn := fun _ => fun
  | [d] => { results := [.lit (.bool true)], args := [d] }
  | _ => none }
def fnClashesRow : OpenClaim := { program := "ythpaolkonlhjfaa", sum := "03da6b2a83838e8ecdf3a99091efa4766c5dbe73ce220c3f35b7af62b0b7c862", func := "loop.example/g02080/laws.FnClashes", spec := "fnClashes", unfollowed := true, recurses := true, apart := false }
def FnClashesSaid : Prop := fnClashesRow.holds Try.pinned (OpenSpec.ofChange fnClashesSpec)

/-- ITS FALSE NEIGHBOUR: 'it returns false'. Refute it at one input. -/
def fnClashesWrong : ChangeSpec := { name := "fnClashes", fn := fun _ => fun
  | [d] => { results := [.lit (.bool false)], args := [d] }
  | _ => none }
def FnClashesWrongFalsely : Prop := fnClashesRow.holds Try.pinned (OpenSpec.ofChange fnClashesWrong)

/-- 'laws.FnExactIsConsistent': WHATEVER THE INPUT: true; the input reads as it did. -/
def fnExactIsConsistentSpec : ChangeSpec := { name := "fnExactIsConsistent", fn := fun _ => fun
  | [d1, d2] => { results := [.lit (.bool true)], args := [d1, d2] }
  | _ => none }
def fnExactIsConsistentRow : OpenClaim := { program := "ythpaolkonlhjfaa", sum := "03da6b2a83838e8ecdf3a99091efa4766c5dbe73ce220c3f35b7af62b0b7c862", func := "loop.example/g02080/laws.FnExactIsConsistent", spec := "fnExactIsConsistent", unfollowed := true, recurses := true, apart := false }
def FnExactIsConsistentSaid : Prop := fnExactIsConsistentRow.holds Try.pinned (OpenSpec.ofChange fnExactIsConsistentSpec)

/-- ITS FALSE NEIGHBOUR: 'it returns false'. Refute it at one input. -/
def fnExactIsConsistentWrong : ChangeSpec := { name := "fnExactIsConsistent", fn := fun _ => fun
  | [d1, d2] => { results := [.lit (.bool false)], args := [d1, d2] }
  | _ => none }
def FnExactIsConsistentWrongFalsely : Prop := fnExactIsConsistentRow.holds Try.pinned (OpenSpec.ofChange fnExactIsConsistentWrong)

/-- 'laws.FnExactDisagreesAt': WHATEVER THE INPUT: true; the input reads as it did. -/
def fnExactDisagreesAtSpec : ChangeSpec := { name := "fnExactDisagreesAt", fn := fun _ => fun
  | [d1, d2, d3] => { results := [.lit (.bool true)], args := [d1, d2, d3] }
  | _ => none }
def fnExactDisagreesAtRow : OpenClaim := { program := "ythpaolkonlhjfaa", sum := "03da6b2a83838e8ecdf3a99091efa4766c5dbe73ce220c3f35b7af62b0b7c862", func := "loop.example/g02080/laws.FnExactDisagreesAt", spec := "fnExactDisagreesAt", apart := false }
def FnExactDisagreesAtSaid : Prop := fnExactDisagreesAtRow.holds Try.pinned (OpenSpec.ofChange fnExactDisagreesAtSpec)

/-- ITS FALSE NEIGHBOUR: 'it returns false'. Refute it at one input. -/
def fnExactDisagreesAtWrong : ChangeSpec := { name := "fnExactDisagreesAt", fn := fun _ => fun
  | [d1, d2, d3] => { results := [.lit (.bool false)], args := [d1, d2, d3] }
  | _ => none }
def FnExactDisagreesAtWrongFalsely : Prop := fnExactDisagreesAtRow.holds Try.pinned (OpenSpec.ofChange fnExactDisagreesAtWrong)

/-- 'laws.FnExactStuckRows': WHATEVER THE INPUT: true; the input reads as it did. -/
def fnExactStuckRowsSpec : ChangeSpec := { name := "fnExactStuckRows", fn := fun _ => fun
  | [d1, d2] => { results := [.lit (.bool true)], args := [d1, d2] }
  | _ => none }
def fnExactStuckRowsRow : OpenClaim := { program := "ythpaolkonlhjfaa", sum := "03da6b2a83838e8ecdf3a99091efa4766c5dbe73ce220c3f35b7af62b0b7c862", func := "loop.example/g02080/laws.FnExactStuckRows", spec := "fnExactStuckRows", unfollowed := true, recurses := true, apart := false }
def FnExactStuckRowsSaid : Prop := fnExactStuckRowsRow.holds Try.pinned (OpenSpec.ofChange fnExactStuckRowsSpec)

/-- ITS FALSE NEIGHBOUR: 'it returns false'. Refute it at one input. -/
def fnExactStuckRowsWrong : ChangeSpec := { name := "fnExactStuckRows", fn := fun _ => fun
  | [d1, d2] => { results := [.lit (.bool false)], args := [d1, d2] }
  | _ => none }
def FnExactStuckRowsWrongFalsely : Prop := fnExactStuckRowsRow.holds Try.pinned (OpenSpec.ofChange fnExactStuckRowsWrong)

/-- 'laws.FnExactStrataOf': WHATEVER THE INPUT: true; the input reads as it did. -/
def fnExactStrataOfSpec : ChangeSpec := { name := "fnExactStrataOf", fn := fun _ => fun
  | [d1, d2] => { results := [.lit (.bool true)], args := [d1, d2] }
  | _ => none }
def fnExactStrataOfRow : OpenClaim := { program := "ythpaolkonlhjfaa", sum := "03da6b2a83838e8ecdf3a99091efa4766c5dbe73ce220c3f35b7af62b0b7c862", func := "loop.example/g02080/laws.FnExactStrataOf", spec := "fnExactStrataOf", unfollowed := true, recurses := true, apart := false }
def FnExactStrataOfSaid : Prop := fnExactStrataOfRow.holds Try.pinned (OpenSpec.ofChange fnExactStrataOfSpec)

/-- ITS FALSE NEIGHBOUR: 'it returns false'. Refute it at one input. -/
def fnExactStrataOfWrong : ChangeSpec := { name := "fnExactStrataOf", fn := fun _ => fun
  | [d1, d2] => { results := [.lit (.bool false)], args := [d1, d2] }
  | _ => none }
def FnExactStrataOfWrongFalsely : Prop := fnExactStrataOfRow.holds Try.pinned (OpenSpec.ofChange fnExactStrataOfWrong)

/-- 'laws.FnExactIsClash': WHATEVER THE INPUT: true; the input reads as it did. -/
def fnExactIsClashSpec : ChangeSpec := { name := "fnExactIsClash", fn := fun _ => fun
  | [d1, d2, d3] => { results := [.lit (.bool true)], args := [d1, d2, d3] }
  | _ => none }
def fnExactIsClashRow : OpenClaim := { program := "ythpaolkonlhjfaa", sum := "03da6b2a83838e8ecdf3a99091efa4766c5dbe73ce220c3f35b7af62b0b7c862", func := "loop.example/g02080/laws.FnExactIsClash", spec := "fnExactIsClash", unfollowed := true, recurses := true, apart := false }
def FnExactIsClashSaid : Prop := fnExactIsClashRow.holds Try.pinned (OpenSpec.ofChange fnExactIsClashSpec)

/-- ITS FALSE NEIGHBOUR: 'it returns false'. Refute it at one input. -/
def fnExactIsClashWrong : ChangeSpec := { name := "fnExactIsClash", fn := fun _ => fun
  | [d1, d2, d3] => { results := [.lit (.bool false)], args := [d1, d2, d3] }
  | _ => none }
def FnExactIsClashWrongFalsely : Prop := fnExactIsClashRow.holds Try.pinned (OpenSpec.ofChange fnExactIsClashWrong)

/-- 'laws.FnExactDropClashes': WHATEVER THE INPUT: true; the input reads as it did. -/
def fnExactDropClashesSpec : ChangeSpec := { name := "fnExactDropClashes", fn := fun _ => fun
  | [d1, d2] => { results := [.lit (.bool true)], args := [d1, d2] }
  | _ => none }
def fnExactDropClashesRow : OpenClaim := { program := "ythpaolkonlhjfaa", sum := "03da6b2a83838e8ecdf3a99091efa4766c5dbe73ce220c3f35b7af62b0b7c862", func := "loop.example/g02080/laws.FnExactDropClashes", spec := "fnExactDropClashes", unfollowed := true, recurses := true, apart := false }
def FnExactDropClashesSaid : Prop := fnExactDropClashesRow.holds Try.pinned (OpenSpec.ofChange fnExactDropClashesSpec)

/-- ITS FALSE NEIGHBOUR: 'it returns false'. Refute it at one input. -/
def fnExactDropClashesWrong : ChangeSpec := { name := "fnExactDropClashes", fn := fun _ => fun
  | [d1, d2] => { results := [.lit (.bool false)], args := [d1, d2] }
  | _ => none }
def FnExactDropClashesWrongFalsely : Prop := fnExactDropClashesRow.holds Try.pinned (OpenSpec.ofChange fnExactDropClashesWrong)

/-- 'laws.FnExactClashOf': WHATEVER THE INPUT: true; the input reads as it did. -/
def fnExactClashOfSpec : ChangeSpec := { name := "fnExactClashOf", fn := fun _ => fun
  | [d1, d2] => { results := [.lit (.bool true)], args := [d1, d2] }
  | _ => none }
def fnExactClashOfRow : OpenClaim := { program := "ythpaolkonlhjfaa", sum := "03da6b2a83838e8ecdf3a99091efa4766c5dbe73ce220c3f35b7af62b0b7c862", func := "loop.example/g02080/laws.FnExactClashOf", spec := "fnExactClashOf", unfollowed := true, recurses := true, apart := false }
def FnExactClashOfSaid : Prop := fnExactClashOfRow.holds Try.pinned (OpenSpec.ofChange fnExactClashOfSpec)

/-- ITS FALSE NEIGHBOUR: 'it returns false'. Refute it at one input. -/
def fnExactClashOfWrong : ChangeSpec := { name := "fnExactClashOf", fn := fun _ => fun
  | [d1, d2] => { results := [.lit (.bool false)], args := [d1, d2] }
  | _ => none }
def FnExactClashOfWrongFalsely : Prop := fnExactClashOfRow.holds Try.pinned (OpenSpec.ofChange fnExactClashOfWrong)

/-- 'laws.FnExactLargestConsistent': WHATEVER THE INPUT: true; the input reads as it did. -/
def fnExactLargestConsistentSpec : ChangeSpec := { name := "fnExactLargestConsistent", fn := fun _ => fun
  | [d1, d2] => { results := [.lit (.bool true)], args := [d1, d2] }
  | _ => none }
def fnExactLargestConsistentRow : OpenClaim := { program := "ythpaolkonlhjfaa", sum := "03da6b2a83838e8ecdf3a99091efa4766c5dbe73ce220c3f35b7af62b0b7c862", func := "loop.example/g02080/laws.FnExactLargestConsistent", spec := "fnExactLargestConsistent", unfollowed := true, recurses := true, apart := false }
def FnExactLargestConsistentSaid : Prop := fnExactLargestConsistentRow.holds Try.pinned (OpenSpec.ofChange fnExactLargestConsistentSpec)

/-- ITS FALSE NEIGHBOUR: 'it returns false'. Refute it at one input. -/
def fnExactLargestConsistentWrong : ChangeSpec := { name := "fnExactLargestConsistent", fn := fun _ => fun
  | [d1, d2] => { results := [.lit (.bool false)], args := [d1, d2] }
  | _ => none }
def FnExactLargestConsistentWrongFalsely : Prop := fnExactLargestConsistentRow.holds Try.pinned (OpenSpec.ofChange fnExactLargestConsistentWrong)

/-- 'laws.FnExactClashProof': WHATEVER THE INPUT: true; the input reads as it did. -/
def fnExactClashProofSpec : ChangeSpec := { name := "fnExactClashProof", fn := fun _ => fun
  | [d1, d2] => { results := [.lit (.bool true)], args := [d1, d2] }
  | _ => none }
def fnExactClashProofRow : OpenClaim := { program := "ythpaolkonlhjfaa", sum := "03da6b2a83838e8ecdf3a99091efa4766c5dbe73ce220c3f35b7af62b0b7c862", func := "loop.example/g02080/laws.FnExactClashProof", spec := "fnExactClashProof", unfollowed := true, recurses := true, apart := false }
def FnExactClashProofSaid : Prop := fnExactClashProofRow.holds Try.pinned (OpenSpec.ofChange fnExactClashProofSpec)

/-- ITS FALSE NEIGHBOUR: 'it returns false'. Refute it at one input. -/
def fnExactClashProofWrong : ChangeSpec := { name := "fnExactClashProof", fn := fun _ => fun
  | [d1, d2] => { results := [.lit (.bool false)], args := [d1, d2] }
  | _ => none }
def FnExactClashProofWrongFalsely : Prop := fnExactClashProofRow.holds Try.pinned (OpenSpec.ofChange fnExactClashProofWrong)

/-- 'laws.FnExactAreStrata': WHATEVER THE INPUT: true; the input reads as it did. -/
def fnExactAreStrataSpec : ChangeSpec := { name := "fnExactAreStrata", fn := fun _ => fun
  | [d1, d2] => { results := [.lit (.bool true)], args := [d1, d2] }
  | _ => none }
def fnExactAreStrataRow : OpenClaim := { program := "ythpaolkonlhjfaa", sum := "03da6b2a83838e8ecdf3a99091efa4766c5dbe73ce220c3f35b7af62b0b7c862", func := "loop.example/g02080/laws.FnExactAreStrata", spec := "fnExactAreStrata", unfollowed := true, recurses := true, apart := false }
def FnExactAreStrataSaid : Prop := fnExactAreStrataRow.holds Try.pinned (OpenSpec.ofChange fnExactAreStrataSpec)

/-- ITS FALSE NEIGHBOUR: 'it returns false'. Refute it at one input. -/
def fnExactAreStrataWrong : ChangeSpec := { name := "fnExactAreStrata", fn := fun _ => fun
  | [d1, d2] => { results := [.lit (.bool false)], args := [d1, d2] }
  | _ => none }
def FnExactAreStrataWrongFalsely : Prop := fnExactAreStrataRow.holds Try.pinned (OpenSpec.ofChange fnExactAreStrataWrong)

/- THE SECOND FORM. 'bulk': how many values and letters a reading holds, each counted each time it is reached (what is shared counts as often as it is met; a slice's spare places count too). A statement '..UptoSaid' is the law's where the arguments, and the package variables that the reading takes, are together of bulk at most 1048576: NARROWER than '..Said'. Prove '..Said' where nothing that the law and all that it calls make is longer than what came in: it says more and counts as full. Else prove '..UptoSaid'. A law counts once. -/
mutual
def uptoBulk {H : Type} : DataW H → Nat
  | .lit (.string bytes) => bytes.length + 1
  | .lit _ => 1
  | .nil => 1
  | .ptr d => uptoBulk d + 1
  | .slice elems spare => uptoBulkAll elems + uptoBulkAll spare + 1
  | .agg parts => uptoBulkAll parts + 1
  | .iface _ d => uptoBulk d + 1
  | .map entries => uptoBulkEntries entries + 1
  | .held _ => 1
def uptoBulkAll {H : Type} : List (DataW H) → Nat
  | [] => 0
  | d :: r => uptoBulk d + uptoBulkAll r
def uptoBulkEntries {H : Type} : List (Lit × DataW H) → Nat
  | [] => 0
  | x :: r => uptoBulkEntry x + uptoBulkEntries r
def uptoBulkEntry {H : Type} : Lit × DataW H → Nat
  | (.string bytes, d) => bytes.length + uptoBulk d + 1
  | (_, d) => uptoBulk d + 1
 end
def uptoSmall : (H : Type) → List (DataW H) → Bool := fun _ ds => decide (uptoBulkAll ds ≤ 1048576)
def OpenSpec.upto (s : _root_.Go.ChangeSpec) : _root_.Go.OpenSpec := { _root_.Go.OpenSpec.ofChange s with cond := some uptoSmall }

/-- 'laws.FnClashes', WHERE WHAT IT READS IS OF BULK AT MOST 1048576: true; the input reads as it did. -/
def fnClashesUptoRow : OpenClaim := { program := "ythpaolkonlhjfaa", sum := "03da6b2a83838e8ecdf3a99091efa4766c5dbe73ce220c3f35b7af62b0b7c862", func := "loop.example/g02080/laws.FnClashes", spec := "fnClashes", unfollowed := true, recurses := true, apart := false, narrowed := true }
def FnClashesUptoSaid : Prop := fnClashesUptoRow.holds Try.pinned (OpenSpec.upto fnClashesSpec)

/-- 'laws.FnExactIsConsistent', WHERE WHAT IT READS IS OF BULK AT MOST 1048576: true; the input reads as it did. -/
def fnExactIsConsistentUptoRow : OpenClaim := { program := "ythpaolkonlhjfaa", sum := "03da6b2a83838e8ecdf3a99091efa4766c5dbe73ce220c3f35b7af62b0b7c862", func := "loop.example/g02080/laws.FnExactIsConsistent", spec := "fnExactIsConsistent", unfollowed := true, recurses := true, apart := false, narrowed := true }
def FnExactIsConsistentUptoSaid : Prop := fnExactIsConsistentUptoRow.holds Try.pinned (OpenSpec.upto fnExactIsConsistentSpec)

/-- 'laws.FnExactDisagreesAt', WHERE WHAT IT READS IS OF BULK AT MOST 1048576: true; the input reads as it did. -/
def fnExactDisagreesAtUptoRow : OpenClaim := { program := "ythpaolkonlhjfaa", sum := "03da6b2a83838e8ecdf3a99091efa4766c5dbe73ce220c3f35b7af62b0b7c862", func := "loop.example/g02080/laws.FnExactDisagreesAt", spec := "fnExactDisagreesAt", apart := false, narrowed := true }
def FnExactDisagreesAtUptoSaid : Prop := fnExactDisagreesAtUptoRow.holds Try.pinned (OpenSpec.upto fnExactDisagreesAtSpec)

/-- 'laws.FnExactStuckRows', WHERE WHAT IT READS IS OF BULK AT MOST 1048576: true; the input reads as it did. -/
def fnExactStuckRowsUptoRow : OpenClaim := { program := "ythpaolkonlhjfaa", sum := "03da6b2a83838e8ecdf3a99091efa4766c5dbe73ce220c3f35b7af62b0b7c862", func := "loop.example/g02080/laws.FnExactStuckRows", spec := "fnExactStuckRows", unfollowed := true, recurses := true, apart := false, narrowed := true }
def FnExactStuckRowsUptoSaid : Prop := fnExactStuckRowsUptoRow.holds Try.pinned (OpenSpec.upto fnExactStuckRowsSpec)

/-- 'laws.FnExactStrataOf', WHERE WHAT IT READS IS OF BULK AT MOST 1048576: true; the input reads as it did. -/
def fnExactStrataOfUptoRow : OpenClaim := { program := "ythpaolkonlhjfaa", sum := "03da6b2a83838e8ecdf3a99091efa4766c5dbe73ce220c3f35b7af62b0b7c862", func := "loop.example/g02080/laws.FnExactStrataOf", spec := "fnExactStrataOf", unfollowed := true, recurses := true, apart := false, narrowed := true }
def FnExactStrataOfUptoSaid : Prop := fnExactStrataOfUptoRow.holds Try.pinned (OpenSpec.upto fnExactStrataOfSpec)

/-- 'laws.FnExactIsClash', WHERE WHAT IT READS IS OF BULK AT MOST 1048576: true; the input reads as it did. -/
def fnExactIsClashUptoRow : OpenClaim := { program := "ythpaolkonlhjfaa", sum := "03da6b2a83838e8ecdf3a99091efa4766c5dbe73ce220c3f35b7af62b0b7c862", func := "loop.example/g02080/laws.FnExactIsClash", spec := "fnExactIsClash", unfollowed := true, recurses := true, apart := false, narrowed := true }
def FnExactIsClashUptoSaid : Prop := fnExactIsClashUptoRow.holds Try.pinned (OpenSpec.upto fnExactIsClashSpec)

/-- 'laws.FnExactDropClashes', WHERE WHAT IT READS IS OF BULK AT MOST 1048576: true; the input reads as it did. -/
def fnExactDropClashesUptoRow : OpenClaim := { program := "ythpaolkonlhjfaa", sum := "03da6b2a83838e8ecdf3a99091efa4766c5dbe73ce220c3f35b7af62b0b7c862", func := "loop.example/g02080/laws.FnExactDropClashes", spec := "fnExactDropClashes", unfollowed := true, recurses := true, apart := false, narrowed := true }
def FnExactDropClashesUptoSaid : Prop := fnExactDropClashesUptoRow.holds Try.pinned (OpenSpec.upto fnExactDropClashesSpec)

/-- 'laws.FnExactClashOf', WHERE WHAT IT READS IS OF BULK AT MOST 1048576: true; the input reads as it did. -/
def fnExactClashOfUptoRow : OpenClaim := { program := "ythpaolkonlhjfaa", sum := "03da6b2a83838e8ecdf3a99091efa4766c5dbe73ce220c3f35b7af62b0b7c862", func := "loop.example/g02080/laws.FnExactClashOf", spec := "fnExactClashOf", unfollowed := true, recurses := true, apart := false, narrowed := true }
def FnExactClashOfUptoSaid : Prop := fnExactClashOfUptoRow.holds Try.pinned (OpenSpec.upto fnExactClashOfSpec)

/-- 'laws.FnExactLargestConsistent', WHERE WHAT IT READS IS OF BULK AT MOST 1048576: true; the input reads as it did. -/
def fnExactLargestConsistentUptoRow : OpenClaim := { program := "ythpaolkonlhjfaa", sum := "03da6b2a83838e8ecdf3a99091efa4766c5dbe73ce220c3f35b7af62b0b7c862", func := "loop.example/g02080/laws.FnExactLargestConsistent", spec := "fnExactLargestConsistent", unfollowed := true, recurses := true, apart := false, narrowed := true }
def FnExactLargestConsistentUptoSaid : Prop := fnExactLargestConsistentUptoRow.holds Try.pinned (OpenSpec.upto fnExactLargestConsistentSpec)

/-- 'laws.FnExactClashProof', WHERE WHAT IT READS IS OF BULK AT MOST 1048576: true; the input reads as it did. -/
def fnExactClashProofUptoRow : OpenClaim := { program := "ythpaolkonlhjfaa", sum := "03da6b2a83838e8ecdf3a99091efa4766c5dbe73ce220c3f35b7af62b0b7c862", func := "loop.example/g02080/laws.FnExactClashProof", spec := "fnExactClashProof", unfollowed := true, recurses := true, apart := false, narrowed := true }
def FnExactClashProofUptoSaid : Prop := fnExactClashProofUptoRow.holds Try.pinned (OpenSpec.upto fnExactClashProofSpec)

/-- 'laws.FnExactAreStrata', WHERE WHAT IT READS IS OF BULK AT MOST 1048576: true; the input reads as it did. -/
def fnExactAreStrataUptoRow : OpenClaim := { program := "ythpaolkonlhjfaa", sum := "03da6b2a83838e8ecdf3a99091efa4766c5dbe73ce220c3f35b7af62b0b7c862", func := "loop.example/g02080/laws.FnExactAreStrata", spec := "fnExactAreStrata", unfollowed := true, recurses := true, apart := false, narrowed := true }
def FnExactAreStrataUptoSaid : Prop := fnExactAreStrataUptoRow.holds Try.pinned (OpenSpec.upto fnExactAreStrataSpec)

end Rows
end Go.Proofs.Ythpaolkonlhjfaa
