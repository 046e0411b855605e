/-
  No cell of these rows narrows 'for every input' (looked for: loops, veiled, ifaces, maps, wideKeys, modest, calm, conditions, laid).
  DERIVED. THE GIVEN ROWS OF THIS SEAT. 9 by the template 'for every input the law returns true; each argument reads behind the call as it read before'; 0 by the template 'total and deterministic' (their statements: YtnagdbamieahgaaTotals.lean).
  GIVEN WITH THE SEED: the statements are not yours to turn. If you find one false, say at which input.
  Laid BY PROGRAM, IN A SANDBOX (cutbox-rows.mjs): the forced cells as the released guide's own fill.sh prints them over the translation aa69185fd7273e24… (all of the seat's roots in one cut). By AI agents, Wed Nov 11 2026. No macro, syntax, notation, axiom, sorry.
-/
import Derived.Test.YtnagdbamieahgaaChecked
import GoSem.Claim
import GoSem.ClaimJoined
import GoSem.ClaimMapViews
import Derived.JoinedTies
import Derived.KernelRfl
namespace Go.Proofs.Ytnagdbamieahgaa
/- THE CELL 'sum', in the pinned program and in every row, IS THE sha256 OF THE DUMP (.gsa) THAT YtnagdbamieahgaaProg.lean LOADS. Nothing in Lean hashes anything: it is a label: what it is worth is what the hold of that sum in a sandbox is worth. -/
noncomputable def Try.pinned : Pinned := { name := "ytnagdbamieahgaa", sum := "aa69185fd7273e24ab09b26921a41540babba93ce381cdd392d72a4378981c8a", checked := Try.checked }
namespace Rows
def none {H : Type} : Left H := { results := [], args := [] }

/-- 'plexuslaw35.GraphTells': WHATEVER THE INPUT: true; the input reads as it did. -/
def graphTellsSpec : ChangeSpec := { name := "graphTells", fn := fun _ => fun
  | [d1, d2, d3] => { results := [.lit (.bool true)], args := [d1, d2, d3] }
  | _ => none }
def graphTellsRow : OpenClaim := { program := "ytnagdbamieahgaa", sum := "aa69185fd7273e24ab09b26921a41540babba93ce381cdd392d72a4378981c8a", func := "plexus/plexuslaw35.GraphTells", spec := "graphTells", unfollowed := true, recurses := true, plainKeys := false, apart := false }
def GraphTellsSaid : Prop := graphTellsRow.holds Try.pinned (OpenSpec.ofChange graphTellsSpec)

/-- ITS FALSE NEIGHBOUR: 'it returns false'. Refute it at one input. -/
def graphTellsWrong : ChangeSpec := { name := "graphTells", fn := fun _ => fun
  | [d1, d2, d3] => { results := [.lit (.bool false)], args := [d1, d2, d3] }
  | _ => none }
def GraphTellsWrongFalsely : Prop := graphTellsRow.holds Try.pinned (OpenSpec.ofChange graphTellsWrong)

/-- 'plexuslaw35.GraphSorts': WHATEVER THE INPUT: true; the input reads as it did. -/
def graphSortsSpec : ChangeSpec := { name := "graphSorts", fn := fun _ => fun
  | [d] => { results := [.lit (.bool true)], args := [d] }
  | _ => none }
def graphSortsRow : OpenClaim := { program := "ytnagdbamieahgaa", sum := "aa69185fd7273e24ab09b26921a41540babba93ce381cdd392d72a4378981c8a", func := "plexus/plexuslaw35.GraphSorts", spec := "graphSorts", unfollowed := true, recurses := true, plainKeys := false, apart := false }
def GraphSortsSaid : Prop := graphSortsRow.holds Try.pinned (OpenSpec.ofChange graphSortsSpec)

/-- ITS FALSE NEIGHBOUR: 'it returns false'. Refute it at one input. -/
def graphSortsWrong : ChangeSpec := { name := "graphSorts", fn := fun _ => fun
  | [d] => { results := [.lit (.bool false)], args := [d] }
  | _ => none }
def GraphSortsWrongFalsely : Prop := graphSortsRow.holds Try.pinned (OpenSpec.ofChange graphSortsWrong)

/-- 'plexuslaw35.GraphPast': WHATEVER THE INPUT: true; the input reads as it did. -/
def graphPastSpec : ChangeSpec := { name := "graphPast", fn := fun _ => fun
  | [d1, d2, d3, d4] => { results := [.lit (.bool true)], args := [d1, d2, d3, d4] }
  | _ => none }
def graphPastRow : OpenClaim := { program := "ytnagdbamieahgaa", sum := "aa69185fd7273e24ab09b26921a41540babba93ce381cdd392d72a4378981c8a", func := "plexus/plexuslaw35.GraphPast", spec := "graphPast", unfollowed := true, recurses := true, plainKeys := false, apart := false }
def GraphPastSaid : Prop := graphPastRow.holds Try.pinned (OpenSpec.ofChange graphPastSpec)

/-- ITS FALSE NEIGHBOUR: 'it returns false'. Refute it at one input. -/
def graphPastWrong : ChangeSpec := { name := "graphPast", fn := fun _ => fun
  | [d1, d2, d3, d4] => { results := [.lit (.bool false)], args := [d1, d2, d3, d4] }
  | _ => none }
def GraphPastWrongFalsely : Prop := graphPastRow.holds Try.pinned (OpenSpec.ofChange graphPastWrong)

/-- 'plexuslaw35.GraphDelivers': WHATEVER THE INPUT: true; the input reads as it did. -/
def graphDeliversSpec : ChangeSpec := { name := "graphDelivers", fn := fun _ => fun
  | [d1, d2] => { results := [.lit (.bool true)], args := [d1, d2] }
  | _ => none }
def graphDeliversRow : OpenClaim := { program := "ytnagdbamieahgaa", sum := "aa69185fd7273e24ab09b26921a41540babba93ce381cdd392d72a4378981c8a", func := "plexus/plexuslaw35.GraphDelivers", spec := "graphDelivers", unfollowed := true, recurses := true, plainKeys := false, apart := false }
def GraphDeliversSaid : Prop := graphDeliversRow.holds Try.pinned (OpenSpec.ofChange graphDeliversSpec)

/-- ITS FALSE NEIGHBOUR: 'it returns false'. Refute it at one input. -/
def graphDeliversWrong : ChangeSpec := { name := "graphDelivers", fn := fun _ => fun
  | [d1, d2] => { results := [.lit (.bool false)], args := [d1, d2] }
  | _ => none }
def GraphDeliversWrongFalsely : Prop := graphDeliversRow.holds Try.pinned (OpenSpec.ofChange graphDeliversWrong)

/-- 'plexuslaw35.GraphDepth': WHATEVER THE INPUT: true; the input reads as it did. -/
def graphDepthSpec : ChangeSpec := { name := "graphDepth", fn := fun _ => fun
  | [d] => { results := [.lit (.bool true)], args := [d] }
  | _ => none }
def graphDepthRow : OpenClaim := { program := "ytnagdbamieahgaa", sum := "aa69185fd7273e24ab09b26921a41540babba93ce381cdd392d72a4378981c8a", func := "plexus/plexuslaw35.GraphDepth", spec := "graphDepth", unfollowed := true, recurses := true, plainKeys := false, apart := false }
def GraphDepthSaid : Prop := graphDepthRow.holds Try.pinned (OpenSpec.ofChange graphDepthSpec)

/-- ITS FALSE NEIGHBOUR: 'it returns false'. Refute it at one input. -/
def graphDepthWrong : ChangeSpec := { name := "graphDepth", fn := fun _ => fun
  | [d] => { results := [.lit (.bool false)], args := [d] }
  | _ => none }
def GraphDepthWrongFalsely : Prop := graphDepthRow.holds Try.pinned (OpenSpec.ofChange graphDepthWrong)

/-- 'plexuslaw10.OrsetGoes': WHATEVER THE INPUT: true; the input reads as it did. -/
def orsetGoesSpec : ChangeSpec := { name := "orsetGoes", fn := fun _ => fun
  | [d1, d2, d3] => { results := [.lit (.bool true)], args := [d1, d2, d3] }
  | _ => none }
def orsetGoesRow : OpenClaim := { program := "ytnagdbamieahgaa", sum := "aa69185fd7273e24ab09b26921a41540babba93ce381cdd392d72a4378981c8a", func := "plexus/plexuslaw10.OrsetGoes", spec := "orsetGoes", inPlace := ["slices.overlaps[plexus/api.Mark]"], unfollowed := true, recurses := true, plainKeys := false, apart := false }
def OrsetGoesSaid : Prop := orsetGoesRow.holds Try.pinned (OpenSpec.ofChange orsetGoesSpec)

/-- ITS FALSE NEIGHBOUR: 'it returns false'. Refute it at one input. -/
def orsetGoesWrong : ChangeSpec := { name := "orsetGoes", fn := fun _ => fun
  | [d1, d2, d3] => { results := [.lit (.bool false)], args := [d1, d2, d3] }
  | _ => none }
def OrsetGoesWrongFalsely : Prop := orsetGoesRow.holds Try.pinned (OpenSpec.ofChange orsetGoesWrong)

/-- 'plexuslaw10.OrsetTells': WHATEVER THE INPUT: true; the input reads as it did. -/
def orsetTellsSpec : ChangeSpec := { name := "orsetTells", fn := fun _ => fun
  | [d1, d2, d3, d4, d5] => { results := [.lit (.bool true)], args := [d1, d2, d3, d4, d5] }
  | _ => none }
def orsetTellsRow : OpenClaim := { program := "ytnagdbamieahgaa", sum := "aa69185fd7273e24ab09b26921a41540babba93ce381cdd392d72a4378981c8a", func := "plexus/plexuslaw10.OrsetTells", spec := "orsetTells", inPlace := ["slices.overlaps[plexus/api.Mark]"], unfollowed := true, recurses := true, plainKeys := false, apart := false }
def OrsetTellsSaid : Prop := orsetTellsRow.holds Try.pinned (OpenSpec.ofChange orsetTellsSpec)

/-- ITS FALSE NEIGHBOUR: 'it returns false'. Refute it at one input. -/
def orsetTellsWrong : ChangeSpec := { name := "orsetTells", fn := fun _ => fun
  | [d1, d2, d3, d4, d5] => { results := [.lit (.bool false)], args := [d1, d2, d3, d4, d5] }
  | _ => none }
def OrsetTellsWrongFalsely : Prop := orsetTellsRow.holds Try.pinned (OpenSpec.ofChange orsetTellsWrong)

/-- 'plexuslaw10.OrsetWins': WHATEVER THE INPUT: true; the input reads as it did. -/
def orsetWinsSpec : ChangeSpec := { name := "orsetWins", fn := fun _ => fun
  | [d1, d2, d3, d4] => { results := [.lit (.bool true)], args := [d1, d2, d3, d4] }
  | _ => none }
def orsetWinsRow : OpenClaim := { program := "ytnagdbamieahgaa", sum := "aa69185fd7273e24ab09b26921a41540babba93ce381cdd392d72a4378981c8a", func := "plexus/plexuslaw10.OrsetWins", spec := "orsetWins", inPlace := ["slices.overlaps[plexus/api.Mark]"], unfollowed := true, recurses := true, plainKeys := false, apart := false }
def OrsetWinsSaid : Prop := orsetWinsRow.holds Try.pinned (OpenSpec.ofChange orsetWinsSpec)

/-- ITS FALSE NEIGHBOUR: 'it returns false'. Refute it at one input. -/
def orsetWinsWrong : ChangeSpec := { name := "orsetWins", fn := fun _ => fun
  | [d1, d2, d3, d4] => { results := [.lit (.bool false)], args := [d1, d2, d3, d4] }
  | _ => none }
def OrsetWinsWrongFalsely : Prop := orsetWinsRow.holds Try.pinned (OpenSpec.ofChange orsetWinsWrong)

/-- 'plexuslaw10.OrsetFolds': WHATEVER THE INPUT: true; the input reads as it did. -/
def orsetFoldsSpec : ChangeSpec := { name := "orsetFolds", fn := fun _ => fun
  | [d1, d2, d3, d4] => { results := [.lit (.bool true)], args := [d1, d2, d3, d4] }
  | _ => none }
def orsetFoldsRow : OpenClaim := { program := "ytnagdbamieahgaa", sum := "aa69185fd7273e24ab09b26921a41540babba93ce381cdd392d72a4378981c8a", func := "plexus/plexuslaw10.OrsetFolds", spec := "orsetFolds", inPlace := ["slices.overlaps[plexus/api.Mark]"], unfollowed := true, recurses := true, plainKeys := false, apart := false }
def OrsetFoldsSaid : Prop := orsetFoldsRow.holds Try.pinned (OpenSpec.ofChange orsetFoldsSpec)

/-- ITS FALSE NEIGHBOUR: 'it returns false'. Refute it at one input. -/
def orsetFoldsWrong : ChangeSpec := { name := "orsetFolds", fn := fun _ => fun
  | [d1, d2, d3, d4] => { results := [.lit (.bool false)], args := [d1, d2, d3, d4] }
  | _ => none }
def OrsetFoldsWrongFalsely : Prop := orsetFoldsRow.holds Try.pinned (OpenSpec.ofChange orsetFoldsWrong)

/- THE SECOND FORM. 'bulk': how many values and letters a reading holds, each counted each time it is reached (what is shared counts as often as it is met; a slice's spare places count too). A statement '..UptoSaid' is the law's where the arguments, and the package variables that the reading takes, are together of bulk at most 1048576: NARROWER than '..Said'. Prove '..Said' where nothing that the law and all that it calls make is longer than what came in: it says more and counts as full. Else prove '..UptoSaid'. A law counts once. -/
mutual
def uptoBulk {H : Type} : DataW H → Nat
  | .lit (.string bytes) => bytes.length + 1
  | .lit _ => 1
  | .nil => 1
  | .ptr d => uptoBulk d + 1
  | .slice elems spare => uptoBulkAll elems + uptoBulkAll spare + 1
  | .agg parts => uptoBulkAll parts + 1
  | .iface _ d => uptoBulk d + 1
  | .map entries => uptoBulkEntries entries + 1
  | .held _ => 1
def uptoBulkAll {H : Type} : List (DataW H) → Nat
  | [] => 0
  | d :: r => uptoBulk d + uptoBulkAll r
def uptoBulkEntries {H : Type} : List (Lit × DataW H) → Nat
  | [] => 0
  | x :: r => uptoBulkEntry x + uptoBulkEntries r
def uptoBulkEntry {H : Type} : Lit × DataW H → Nat
  | (.string bytes, d) => bytes.length + uptoBulk d + 1
  | (_, d) => uptoBulk d + 1
 end
def uptoSmall : (H : Type) → List (DataW H) → Bool := fun _ ds => decide (uptoBulkAll ds ≤ 1048576)
def OpenSpec.upto (s : _root_.Go.ChangeSpec) : _root_.Go.OpenSpec := { _root_.Go.OpenSpec.ofChange s with cond := some uptoSmall }

/-- 'plexuslaw35.GraphTells', WHERE WHAT IT READS IS OF BULK AT MOST 1048576: true; the input reads as it did. -/
def graphTellsUptoRow : OpenClaim := { program := "ytnagdbamieahgaa", sum := "aa69185fd7273e24ab09b26921a41540babba93ce381cdd392d72a4378981c8a", func := "plexus/plexuslaw35.GraphTells", spec := "graphTells", unfollowed := true, recurses := true, plainKeys := false, apart := false, narrowed := true }
def GraphTellsUptoSaid : Prop := graphTellsUptoRow.holds Try.pinned (OpenSpec.upto graphTellsSpec)

/-- 'plexuslaw35.GraphSorts', WHERE WHAT IT READS IS OF BULK AT MOST 1048576: true; the input reads as it did. -/
def graphSortsUptoRow : OpenClaim := { program := "ytnagdbamieahgaa", sum := "aa69185fd7273e24ab09b26921a41540babba93ce381cdd392d72a4378981c8a", func := "plexus/plexuslaw35.GraphSorts", spec := "graphSorts", unfollowed := true, recurses := true, plainKeys := false, apart := false, narrowed := true }
def GraphSortsUptoSaid : Prop := graphSortsUptoRow.holds Try.pinned (OpenSpec.upto graphSortsSpec)

/-- 'plexuslaw35.GraphPast', WHERE WHAT IT READS IS OF BULK AT MOST 1048576: true; the input reads as it did. -/
def graphPastUptoRow : OpenClaim := { program := "ytnagdbamieahgaa", sum := "aa69185fd7273e24ab09b26921a41540babba93ce381cdd392d72a4378981c8a", func := "plexus/plexuslaw35.GraphPast", spec := "graphPast", unfollowed := true, recurses := true, plainKeys := false, apart := false, narrowed := true }
def GraphPastUptoSaid : Prop := graphPastUptoRow.holds Try.pinned (OpenSpec.upto graphPastSpec)

/-- 'plexuslaw35.GraphDelivers', WHERE WHAT IT READS IS OF BULK AT MOST 1048576: true; the input reads as it did. -/
def graphDeliversUptoRow : OpenClaim := { program := "ytnagdbamieahgaa", sum := "aa69185fd7273e24ab09b26921a41540babba93ce381cdd392d72a4378981c8a", func := "plexus/plexuslaw35.GraphDelivers", spec := "graphDelivers", unfollowed := true, recurses := true, plainKeys := false, apart := false, narrowed := true }
def GraphDeliversUptoSaid : Prop := graphDeliversUptoRow.holds Try.pinned (OpenSpec.upto graphDeliversSpec)

/-- 'plexuslaw35.GraphDepth', WHERE WHAT IT READS IS OF BULK AT MOST 1048576: true; the input reads as it did. -/
def graphDepthUptoRow : OpenClaim := { program := "ytnagdbamieahgaa", sum := "aa69185fd7273e24ab09b26921a41540babba93ce381cdd392d72a4378981c8a", func := "plexus/plexuslaw35.GraphDepth", spec := "graphDepth", unfollowed := true, recurses := true, plainKeys := false, apart := false, narrowed := true }
def GraphDepthUptoSaid : Prop := graphDepthUptoRow.holds Try.pinned (OpenSpec.upto graphDepthSpec)

/-- 'plexuslaw10.OrsetGoes', WHERE WHAT IT READS IS OF BULK AT MOST 1048576: true; the input reads as it did. -/
def orsetGoesUptoRow : OpenClaim := { program := "ytnagdbamieahgaa", sum := "aa69185fd7273e24ab09b26921a41540babba93ce381cdd392d72a4378981c8a", func := "plexus/plexuslaw10.OrsetGoes", spec := "orsetGoes", inPlace := ["slices.overlaps[plexus/api.Mark]"], unfollowed := true, recurses := true, plainKeys := false, apart := false, narrowed := true }
def OrsetGoesUptoSaid : Prop := orsetGoesUptoRow.holds Try.pinned (OpenSpec.upto orsetGoesSpec)

/-- 'plexuslaw10.OrsetTells', WHERE WHAT IT READS IS OF BULK AT MOST 1048576: true; the input reads as it did. -/
def orsetTellsUptoRow : OpenClaim := { program := "ytnagdbamieahgaa", sum := "aa69185fd7273e24ab09b26921a41540babba93ce381cdd392d72a4378981c8a", func := "plexus/plexuslaw10.OrsetTells", spec := "orsetTells", inPlace := ["slices.overlaps[plexus/api.Mark]"], unfollowed := true, recurses := true, plainKeys := false, apart := false, narrowed := true }
def OrsetTellsUptoSaid : Prop := orsetTellsUptoRow.holds Try.pinned (OpenSpec.upto orsetTellsSpec)

/-- 'plexuslaw10.OrsetWins', WHERE WHAT IT READS IS OF BULK AT MOST 1048576: true; the input reads as it did. -/
def orsetWinsUptoRow : OpenClaim := { program := "ytnagdbamieahgaa", sum := "aa69185fd7273e24ab09b26921a41540babba93ce381cdd392d72a4378981c8a", func := "plexus/plexuslaw10.OrsetWins", spec := "orsetWins", inPlace := ["slices.overlaps[plexus/api.Mark]"], unfollowed := true, recurses := true, plainKeys := false, apart := false, narrowed := true }
def OrsetWinsUptoSaid : Prop := orsetWinsUptoRow.holds Try.pinned (OpenSpec.upto orsetWinsSpec)

/-- 'plexuslaw10.OrsetFolds', WHERE WHAT IT READS IS OF BULK AT MOST 1048576: true; the input reads as it did. -/
def orsetFoldsUptoRow : OpenClaim := { program := "ytnagdbamieahgaa", sum := "aa69185fd7273e24ab09b26921a41540babba93ce381cdd392d72a4378981c8a", func := "plexus/plexuslaw10.OrsetFolds", spec := "orsetFolds", inPlace := ["slices.overlaps[plexus/api.Mark]"], unfollowed := true, recurses := true, plainKeys := false, apart := false, narrowed := true }
def OrsetFoldsUptoSaid : Prop := orsetFoldsUptoRow.holds Try.pinned (OpenSpec.upto orsetFoldsSpec)

end Rows
end Go.Proofs.Ytnagdbamieahgaa
