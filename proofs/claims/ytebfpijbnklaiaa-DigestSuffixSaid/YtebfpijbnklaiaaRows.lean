/-
  No cell of these rows narrows 'for every input' (looked for: loops, veiled, ifaces, maps, wideKeys, modest, calm, conditions, laid).
  DERIVED. THE GIVEN ROWS OF THIS SEAT. 11 by the template 'for every input the law returns true; each argument reads behind the call as it read before'; 0 by the template 'total and deterministic' (their statements: YtebfpijbnklaiaaTotals.lean).
  GIVEN WITH THE SEED: the statements are not yours to turn. If you find one false, say at which input.
  Laid BY PROGRAM, IN A SANDBOX (cutbox-rows.mjs): the forced cells as the released guide's own fill.sh prints them over the translation 0bdb32d4cda61e53… (all of the seat's roots in one cut). By AI agents, Wed Nov 11 2026. No macro, syntax, notation, axiom, sorry.
-/
import Derived.Test.YtebfpijbnklaiaaChecked
import GoSem.Claim
import GoSem.ClaimJoined
import GoSem.ClaimMapViews
import Derived.JoinedTies
import Derived.KernelRfl
namespace Go.Proofs.Ytebfpijbnklaiaa
/- THE CELL 'sum', in the pinned program and in every row, IS THE sha256 OF THE DUMP (.gsa) THAT YtebfpijbnklaiaaProg.lean LOADS. Nothing in Lean hashes anything: it is a label: what it is worth is what the hold of that sum in a sandbox is worth. -/
noncomputable def Try.pinned : Pinned := { name := "ytebfpijbnklaiaa", sum := "0bdb32d4cda61e5352fe9b0013108225cb61473bb7f0a4a58d0892c3c9e2e460", checked := Try.checked }
namespace Rows
def none {H : Type} : Left H := { results := [], args := [] }

/-- 'plexuslaw28.DigestParts': WHATEVER THE INPUT: true; the input reads as it did. -/
def digestPartsSpec : ChangeSpec := { name := "digestParts", fn := fun _ => fun
  | [d1, d2] => { results := [.lit (.bool true)], args := [d1, d2] }
  | _ => none }
def digestPartsRow : OpenClaim := { program := "ytebfpijbnklaiaa", sum := "0bdb32d4cda61e5352fe9b0013108225cb61473bb7f0a4a58d0892c3c9e2e460", func := "plexus/plexuslaw28.DigestParts", spec := "digestParts", unfollowed := true, recurses := true, apart := false }
def DigestPartsSaid : Prop := digestPartsRow.holds Try.pinned (OpenSpec.ofChange digestPartsSpec)

/-- ITS FALSE NEIGHBOUR: 'it returns false'. Refute it at one input. -/
def digestPartsWrong : ChangeSpec := { name := "digestParts", fn := fun _ => fun
  | [d1, d2] => { results := [.lit (.bool false)], args := [d1, d2] }
  | _ => none }
def DigestPartsWrongFalsely : Prop := digestPartsRow.holds Try.pinned (OpenSpec.ofChange digestPartsWrong)

/-- 'plexuslaw28.DigestTells': WHATEVER THE INPUT: true; the input reads as it did. -/
def digestTellsSpec : ChangeSpec := { name := "digestTells", fn := fun _ => fun
  | [d1, d2, d3, d4, d5, d6] => { results := [.lit (.bool true)], args := [d1, d2, d3, d4, d5, d6] }
  | _ => none }
def digestTellsRow : OpenClaim := { program := "ytebfpijbnklaiaa", sum := "0bdb32d4cda61e5352fe9b0013108225cb61473bb7f0a4a58d0892c3c9e2e460", func := "plexus/plexuslaw28.DigestTells", spec := "digestTells", unfollowed := true, recurses := true, apart := false }
def DigestTellsSaid : Prop := digestTellsRow.holds Try.pinned (OpenSpec.ofChange digestTellsSpec)

/-- ITS FALSE NEIGHBOUR: 'it returns false'. Refute it at one input. -/
def digestTellsWrong : ChangeSpec := { name := "digestTells", fn := fun _ => fun
  | [d1, d2, d3, d4, d5, d6] => { results := [.lit (.bool false)], args := [d1, d2, d3, d4, d5, d6] }
  | _ => none }
def DigestTellsWrongFalsely : Prop := digestTellsRow.holds Try.pinned (OpenSpec.ofChange digestTellsWrong)

/-- 'plexuslaw28.DigestSuffix': WHATEVER THE INPUT: true; the input reads as it did. -/
def digestSuffixSpec : ChangeSpec := { name := "digestSuffix", fn := fun _ => fun
  | [d1, d2, d3, d4, d5, d6] => { results := [.lit (.bool true)], args := [d1, d2, d3, d4, d5, d6] }
  | _ => none }
def digestSuffixRow : OpenClaim := { program := "ytebfpijbnklaiaa", sum := "0bdb32d4cda61e5352fe9b0013108225cb61473bb7f0a4a58d0892c3c9e2e460", func := "plexus/plexuslaw28.DigestSuffix", spec := "digestSuffix", unfollowed := true, recurses := true, apart := false }
def DigestSuffixSaid : Prop := digestSuffixRow.holds Try.pinned (OpenSpec.ofChange digestSuffixSpec)

/-- ITS FALSE NEIGHBOUR: 'it returns false'. Refute it at one input. -/
def digestSuffixWrong : ChangeSpec := { name := "digestSuffix", fn := fun _ => fun
  | [d1, d2, d3, d4, d5, d6] => { results := [.lit (.bool false)], args := [d1, d2, d3, d4, d5, d6] }
  | _ => none }
def DigestSuffixWrongFalsely : Prop := digestSuffixRow.holds Try.pinned (OpenSpec.ofChange digestSuffixWrong)

/-- 'plexuslaw28.DigestRow': WHATEVER THE INPUT: true; the input reads as it did. -/
def digestRowSpec : ChangeSpec := { name := "digestRow", fn := fun _ => fun
  | [d1, d2, d3] => { results := [.lit (.bool true)], args := [d1, d2, d3] }
  | _ => none }
def digestRowRow : OpenClaim := { program := "ytebfpijbnklaiaa", sum := "0bdb32d4cda61e5352fe9b0013108225cb61473bb7f0a4a58d0892c3c9e2e460", func := "plexus/plexuslaw28.DigestRow", spec := "digestRow", unfollowed := true, recurses := true, apart := false }
def DigestRowSaid : Prop := digestRowRow.holds Try.pinned (OpenSpec.ofChange digestRowSpec)

/-- ITS FALSE NEIGHBOUR: 'it returns false'. Refute it at one input. -/
def digestRowWrong : ChangeSpec := { name := "digestRow", fn := fun _ => fun
  | [d1, d2, d3] => { results := [.lit (.bool false)], args := [d1, d2, d3] }
  | _ => none }
def DigestRowWrongFalsely : Prop := digestRowRow.holds Try.pinned (OpenSpec.ofChange digestRowWrong)

/-- 'plexuslaw03.VecBounds': WHATEVER THE INPUT: true; the input reads as it did. -/
def vecBoundsSpec : ChangeSpec := { name := "vecBounds", fn := fun _ => fun
  | [d1, d2, d3] => { results := [.lit (.bool true)], args := [d1, d2, d3] }
  | _ => none }
def vecBoundsRow : OpenClaim := { program := "ytebfpijbnklaiaa", sum := "0bdb32d4cda61e5352fe9b0013108225cb61473bb7f0a4a58d0892c3c9e2e460", func := "plexus/plexuslaw03.VecBounds", spec := "vecBounds", apart := false }
def VecBoundsSaid : Prop := vecBoundsRow.holds Try.pinned (OpenSpec.ofChange vecBoundsSpec)

/-- ITS FALSE NEIGHBOUR: 'it returns false'. Refute it at one input. -/
def vecBoundsWrong : ChangeSpec := { name := "vecBounds", fn := fun _ => fun
  | [d1, d2, d3] => { results := [.lit (.bool false)], args := [d1, d2, d3] }
  | _ => none }
def VecBoundsWrongFalsely : Prop := vecBoundsRow.holds Try.pinned (OpenSpec.ofChange vecBoundsWrong)

/-- 'plexuslaw03.VecOrder': WHATEVER THE INPUT: true; the input reads as it did. -/
def vecOrderSpec : ChangeSpec := { name := "vecOrder", fn := fun _ => fun
  | [d1, d2, d3] => { results := [.lit (.bool true)], args := [d1, d2, d3] }
  | _ => none }
def vecOrderRow : OpenClaim := { program := "ytebfpijbnklaiaa", sum := "0bdb32d4cda61e5352fe9b0013108225cb61473bb7f0a4a58d0892c3c9e2e460", func := "plexus/plexuslaw03.VecOrder", spec := "vecOrder", apart := false }
def VecOrderSaid : Prop := vecOrderRow.holds Try.pinned (OpenSpec.ofChange vecOrderSpec)

/-- ITS FALSE NEIGHBOUR: 'it returns false'. Refute it at one input. -/
def vecOrderWrong : ChangeSpec := { name := "vecOrder", fn := fun _ => fun
  | [d1, d2, d3] => { results := [.lit (.bool false)], args := [d1, d2, d3] }
  | _ => none }
def VecOrderWrongFalsely : Prop := vecOrderRow.holds Try.pinned (OpenSpec.ofChange vecOrderWrong)

/-- 'plexuslaw03.VecMissing': WHATEVER THE INPUT: true; the input reads as it did. -/
def vecMissingSpec : ChangeSpec := { name := "vecMissing", fn := fun _ => fun
  | [d1, d2] => { results := [.lit (.bool true)], args := [d1, d2] }
  | _ => none }
def vecMissingRow : OpenClaim := { program := "ytebfpijbnklaiaa", sum := "0bdb32d4cda61e5352fe9b0013108225cb61473bb7f0a4a58d0892c3c9e2e460", func := "plexus/plexuslaw03.VecMissing", spec := "vecMissing", apart := false }
def VecMissingSaid : Prop := vecMissingRow.holds Try.pinned (OpenSpec.ofChange vecMissingSpec)

/-- ITS FALSE NEIGHBOUR: 'it returns false'. Refute it at one input. -/
def vecMissingWrong : ChangeSpec := { name := "vecMissing", fn := fun _ => fun
  | [d1, d2] => { results := [.lit (.bool false)], args := [d1, d2] }
  | _ => none }
def VecMissingWrongFalsely : Prop := vecMissingRow.holds Try.pinned (OpenSpec.ofChange vecMissingWrong)

/-- 'plexuslaw20.StableAll': WHATEVER THE INPUT: true; the input reads as it did. -/
def stableAllSpec : ChangeSpec := { name := "stableAll", fn := fun _ => fun
  | [d1, d2, d3, d4] => { results := [.lit (.bool true)], args := [d1, d2, d3, d4] }
  | _ => none }
def stableAllRow : OpenClaim := { program := "ytebfpijbnklaiaa", sum := "0bdb32d4cda61e5352fe9b0013108225cb61473bb7f0a4a58d0892c3c9e2e460", func := "plexus/plexuslaw20.StableAll", spec := "stableAll", apart := false }
def StableAllSaid : Prop := stableAllRow.holds Try.pinned (OpenSpec.ofChange stableAllSpec)

/-- ITS FALSE NEIGHBOUR: 'it returns false'. Refute it at one input. -/
def stableAllWrong : ChangeSpec := { name := "stableAll", fn := fun _ => fun
  | [d1, d2, d3, d4] => { results := [.lit (.bool false)], args := [d1, d2, d3, d4] }
  | _ => none }
def StableAllWrongFalsely : Prop := stableAllRow.holds Try.pinned (OpenSpec.ofChange stableAllWrong)

/-- 'plexuslaw20.StableTells': WHATEVER THE INPUT: true; the input reads as it did. -/
def stableTellsSpec : ChangeSpec := { name := "stableTells", fn := fun _ => fun
  | [d1, d2, d3, d4, d5] => { results := [.lit (.bool true)], args := [d1, d2, d3, d4, d5] }
  | _ => none }
def stableTellsRow : OpenClaim := { program := "ytebfpijbnklaiaa", sum := "0bdb32d4cda61e5352fe9b0013108225cb61473bb7f0a4a58d0892c3c9e2e460", func := "plexus/plexuslaw20.StableTells", spec := "stableTells", apart := false }
def StableTellsSaid : Prop := stableTellsRow.holds Try.pinned (OpenSpec.ofChange stableTellsSpec)

/-- ITS FALSE NEIGHBOUR: 'it returns false'. Refute it at one input. -/
def stableTellsWrong : ChangeSpec := { name := "stableTells", fn := fun _ => fun
  | [d1, d2, d3, d4, d5] => { results := [.lit (.bool false)], args := [d1, d2, d3, d4, d5] }
  | _ => none }
def StableTellsWrongFalsely : Prop := stableTellsRow.holds Try.pinned (OpenSpec.ofChange stableTellsWrong)

/-- 'plexuslaw20.StableBelow': WHATEVER THE INPUT: true; the input reads as it did. -/
def stableBelowSpec : ChangeSpec := { name := "stableBelow", fn := fun _ => fun
  | [d1, d2, d3, d4, d5, d6] => { results := [.lit (.bool true)], args := [d1, d2, d3, d4, d5, d6] }
  | _ => none }
def stableBelowRow : OpenClaim := { program := "ytebfpijbnklaiaa", sum := "0bdb32d4cda61e5352fe9b0013108225cb61473bb7f0a4a58d0892c3c9e2e460", func := "plexus/plexuslaw20.StableBelow", spec := "stableBelow", apart := false }
def StableBelowSaid : Prop := stableBelowRow.holds Try.pinned (OpenSpec.ofChange stableBelowSpec)

/-- ITS FALSE NEIGHBOUR: 'it returns false'. Refute it at one input. -/
def stableBelowWrong : ChangeSpec := { name := "stableBelow", fn := fun _ => fun
  | [d1, d2, d3, d4, d5, d6] => { results := [.lit (.bool false)], args := [d1, d2, d3, d4, d5, d6] }
  | _ => none }
def StableBelowWrongFalsely : Prop := stableBelowRow.holds Try.pinned (OpenSpec.ofChange stableBelowWrong)

/-- 'plexuslaw20.StableClosed': WHATEVER THE INPUT: true; the input reads as it did. -/
def stableClosedSpec : ChangeSpec := { name := "stableClosed", fn := fun _ => fun
  | [d1, d2, d3] => { results := [.lit (.bool true)], args := [d1, d2, d3] }
  | _ => none }
def stableClosedRow : OpenClaim := { program := "ytebfpijbnklaiaa", sum := "0bdb32d4cda61e5352fe9b0013108225cb61473bb7f0a4a58d0892c3c9e2e460", func := "plexus/plexuslaw20.StableClosed", spec := "stableClosed", apart := false }
def StableClosedSaid : Prop := stableClosedRow.holds Try.pinned (OpenSpec.ofChange stableClosedSpec)

/-- ITS FALSE NEIGHBOUR: 'it returns false'. Refute it at one input. -/
def stableClosedWrong : ChangeSpec := { name := "stableClosed", fn := fun _ => fun
  | [d1, d2, d3] => { results := [.lit (.bool false)], args := [d1, d2, d3] }
  | _ => none }
def StableClosedWrongFalsely : Prop := stableClosedRow.holds Try.pinned (OpenSpec.ofChange stableClosedWrong)

/- THE SECOND FORM. 'bulk': how many values and letters a reading holds, each counted each time it is reached (what is shared counts as often as it is met; a slice's spare places count too). A statement '..UptoSaid' is the law's where the arguments, and the package variables that the reading takes, are together of bulk at most 1048576: NARROWER than '..Said'. Prove '..Said' where nothing that the law and all that it calls make is longer than what came in: it says more and counts as full. Else prove '..UptoSaid'. A law counts once. -/
mutual
def uptoBulk {H : Type} : DataW H → Nat
  | .lit (.string bytes) => bytes.length + 1
  | .lit _ => 1
  | .nil => 1
  | .ptr d => uptoBulk d + 1
  | .slice elems spare => uptoBulkAll elems + uptoBulkAll spare + 1
  | .agg parts => uptoBulkAll parts + 1
  | .iface _ d => uptoBulk d + 1
  | .map entries => uptoBulkEntries entries + 1
  | .held _ => 1
def uptoBulkAll {H : Type} : List (DataW H) → Nat
  | [] => 0
  | d :: r => uptoBulk d + uptoBulkAll r
def uptoBulkEntries {H : Type} : List (Lit × DataW H) → Nat
  | [] => 0
  | x :: r => uptoBulkEntry x + uptoBulkEntries r
def uptoBulkEntry {H : Type} : Lit × DataW H → Nat
  | (.string bytes, d) => bytes.length + uptoBulk d + 1
  | (_, d) => uptoBulk d + 1
 end
def uptoSmall : (H : Type) → List (DataW H) → Bool := fun _ ds => decide (uptoBulkAll ds ≤ 1048576)
def OpenSpec.upto (s : _root_.Go.ChangeSpec) : _root_.Go.OpenSpec := { _root_.Go.OpenSpec.ofChange s with cond := some uptoSmall }

/-- 'plexuslaw28.DigestParts', WHERE WHAT IT READS IS OF BULK AT MOST 1048576: true; the input reads as it did. -/
def digestPartsUptoRow : OpenClaim := { program := "ytebfpijbnklaiaa", sum := "0bdb32d4cda61e5352fe9b0013108225cb61473bb7f0a4a58d0892c3c9e2e460", func := "plexus/plexuslaw28.DigestParts", spec := "digestParts", unfollowed := true, recurses := true, apart := false, narrowed := true }
def DigestPartsUptoSaid : Prop := digestPartsUptoRow.holds Try.pinned (OpenSpec.upto digestPartsSpec)

/-- 'plexuslaw28.DigestTells', WHERE WHAT IT READS IS OF BULK AT MOST 1048576: true; the input reads as it did. -/
def digestTellsUptoRow : OpenClaim := { program := "ytebfpijbnklaiaa", sum := "0bdb32d4cda61e5352fe9b0013108225cb61473bb7f0a4a58d0892c3c9e2e460", func := "plexus/plexuslaw28.DigestTells", spec := "digestTells", unfollowed := true, recurses := true, apart := false, narrowed := true }
def DigestTellsUptoSaid : Prop := digestTellsUptoRow.holds Try.pinned (OpenSpec.upto digestTellsSpec)

/-- 'plexuslaw28.DigestSuffix', WHERE WHAT IT READS IS OF BULK AT MOST 1048576: true; the input reads as it did. -/
def digestSuffixUptoRow : OpenClaim := { program := "ytebfpijbnklaiaa", sum := "0bdb32d4cda61e5352fe9b0013108225cb61473bb7f0a4a58d0892c3c9e2e460", func := "plexus/plexuslaw28.DigestSuffix", spec := "digestSuffix", unfollowed := true, recurses := true, apart := false, narrowed := true }
def DigestSuffixUptoSaid : Prop := digestSuffixUptoRow.holds Try.pinned (OpenSpec.upto digestSuffixSpec)

/-- 'plexuslaw28.DigestRow', WHERE WHAT IT READS IS OF BULK AT MOST 1048576: true; the input reads as it did. -/
def digestRowUptoRow : OpenClaim := { program := "ytebfpijbnklaiaa", sum := "0bdb32d4cda61e5352fe9b0013108225cb61473bb7f0a4a58d0892c3c9e2e460", func := "plexus/plexuslaw28.DigestRow", spec := "digestRow", unfollowed := true, recurses := true, apart := false, narrowed := true }
def DigestRowUptoSaid : Prop := digestRowUptoRow.holds Try.pinned (OpenSpec.upto digestRowSpec)

/-- 'plexuslaw03.VecBounds', WHERE WHAT IT READS IS OF BULK AT MOST 1048576: true; the input reads as it did. -/
def vecBoundsUptoRow : OpenClaim := { program := "ytebfpijbnklaiaa", sum := "0bdb32d4cda61e5352fe9b0013108225cb61473bb7f0a4a58d0892c3c9e2e460", func := "plexus/plexuslaw03.VecBounds", spec := "vecBounds", apart := false, narrowed := true }
def VecBoundsUptoSaid : Prop := vecBoundsUptoRow.holds Try.pinned (OpenSpec.upto vecBoundsSpec)

/-- 'plexuslaw03.VecOrder', WHERE WHAT IT READS IS OF BULK AT MOST 1048576: true; the input reads as it did. -/
def vecOrderUptoRow : OpenClaim := { program := "ytebfpijbnklaiaa", sum := "0bdb32d4cda61e5352fe9b0013108225cb61473bb7f0a4a58d0892c3c9e2e460", func := "plexus/plexuslaw03.VecOrder", spec := "vecOrder", apart := false, narrowed := true }
def VecOrderUptoSaid : Prop := vecOrderUptoRow.holds Try.pinned (OpenSpec.upto vecOrderSpec)

/-- 'plexuslaw03.VecMissing', WHERE WHAT IT READS IS OF BULK AT MOST 1048576: true; the input reads as it did. -/
def vecMissingUptoRow : OpenClaim := { program := "ytebfpijbnklaiaa", sum := "0bdb32d4cda61e5352fe9b0013108225cb61473bb7f0a4a58d0892c3c9e2e460", func := "plexus/plexuslaw03.VecMissing", spec := "vecMissing", apart := false, narrowed := true }
def VecMissingUptoSaid : Prop := vecMissingUptoRow.holds Try.pinned (OpenSpec.upto vecMissingSpec)

/-- 'plexuslaw20.StableAll', WHERE WHAT IT READS IS OF BULK AT MOST 1048576: true; the input reads as it did. -/
def stableAllUptoRow : OpenClaim := { program := "ytebfpijbnklaiaa", sum := "0bdb32d4cda61e5352fe9b0013108225cb61473bb7f0a4a58d0892c3c9e2e460", func := "plexus/plexuslaw20.StableAll", spec := "stableAll", apart := false, narrowed := true }
def StableAllUptoSaid : Prop := stableAllUptoRow.holds Try.pinned (OpenSpec.upto stableAllSpec)

/-- 'plexuslaw20.StableTells', WHERE WHAT IT READS IS OF BULK AT MOST 1048576: true; the input reads as it did. -/
def stableTellsUptoRow : OpenClaim := { program := "ytebfpijbnklaiaa", sum := "0bdb32d4cda61e5352fe9b0013108225cb61473bb7f0a4a58d0892c3c9e2e460", func := "plexus/plexuslaw20.StableTells", spec := "stableTells", apart := false, narrowed := true }
def StableTellsUptoSaid : Prop := stableTellsUptoRow.holds Try.pinned (OpenSpec.upto stableTellsSpec)

/-- 'plexuslaw20.StableBelow', WHERE WHAT IT READS IS OF BULK AT MOST 1048576: true; the input reads as it did. -/
def stableBelowUptoRow : OpenClaim := { program := "ytebfpijbnklaiaa", sum := "0bdb32d4cda61e5352fe9b0013108225cb61473bb7f0a4a58d0892c3c9e2e460", func := "plexus/plexuslaw20.StableBelow", spec := "stableBelow", apart := false, narrowed := true }
def StableBelowUptoSaid : Prop := stableBelowUptoRow.holds Try.pinned (OpenSpec.upto stableBelowSpec)

/-- 'plexuslaw20.StableClosed', WHERE WHAT IT READS IS OF BULK AT MOST 1048576: true; the input reads as it did. -/
def stableClosedUptoRow : OpenClaim := { program := "ytebfpijbnklaiaa", sum := "0bdb32d4cda61e5352fe9b0013108225cb61473bb7f0a4a58d0892c3c9e2e460", func := "plexus/plexuslaw20.StableClosed", spec := "stableClosed", apart := false, narrowed := true }
def StableClosedUptoSaid : Prop := stableClosedUptoRow.holds Try.pinned (OpenSpec.upto stableClosedSpec)

end Rows
end Go.Proofs.Ytebfpijbnklaiaa
