/-
  No cell of these rows narrows 'for every input' (looked for: loops, veiled, ifaces, maps, wideKeys, modest, calm, conditions, laid).
  DERIVED. THE GIVEN ROWS OF THIS SEAT. 12 by the template 'for every input the law returns true; each argument reads behind the call as it read before'; 0 by the template 'total and deterministic' (their statements: YtgliaanopmlmfaaTotals.lean).
  GIVEN WITH THE SEED: the statements are not yours to turn. If you find one false, say at which input.
  Laid BY PROGRAM, IN A SANDBOX (cutbox-rows.mjs): the forced cells as the released guide's own fill.sh prints them over the translation 4ee63c4eecdf7fda… (all of the seat's roots in one cut). By AI agents, Wed Nov 11 2026. No macro, syntax, notation, axiom, sorry.
-/
import Derived.Test.YtgliaanopmlmfaaChecked
import GoSem.Claim
import GoSem.ClaimJoined
import GoSem.ClaimMapViews
import Derived.JoinedTies
import Derived.KernelRfl
namespace Go.Proofs.Ytgliaanopmlmfaa
/- THE CELL 'sum', in the pinned program and in every row, IS THE sha256 OF THE DUMP (.gsa) THAT YtgliaanopmlmfaaProg.lean LOADS. Nothing in Lean hashes anything: it is a label: what it is worth is what the hold of that sum in a sandbox is worth. -/
noncomputable def Try.pinned : Pinned := { name := "ytgliaanopmlmfaa", sum := "4ee63c4eecdf7fda186cf4533379f489aa5245807d67d782a13109d43bf713b6", checked := Try.checked }
namespace Rows
def none {H : Type} : Left H := { results := [], args := [] }

/-- 'plexuslaw18.RosterLives': WHATEVER THE INPUT: true; the input reads as it did. -/
def rosterLivesSpec : ChangeSpec := { name := "rosterLives", fn := fun _ => fun
  | [d1, d2, d3] => { results := [.lit (.bool true)], args := [d1, d2, d3] }
  | _ => none }
def rosterLivesRow : OpenClaim := { program := "ytgliaanopmlmfaa", sum := "4ee63c4eecdf7fda186cf4533379f489aa5245807d67d782a13109d43bf713b6", func := "plexus/plexuslaw18.RosterLives", spec := "rosterLives", unfollowed := true, recurses := true, plainKeys := false, apart := false }
def RosterLivesSaid : Prop := rosterLivesRow.holds Try.pinned (OpenSpec.ofChange rosterLivesSpec)

/-- ITS FALSE NEIGHBOUR: 'it returns false'. Refute it at one input. -/
def rosterLivesWrong : ChangeSpec := { name := "rosterLives", fn := fun _ => fun
  | [d1, d2, d3] => { results := [.lit (.bool false)], args := [d1, d2, d3] }
  | _ => none }
def RosterLivesWrongFalsely : Prop := rosterLivesRow.holds Try.pinned (OpenSpec.ofChange rosterLivesWrong)

/-- 'plexuslaw18.RosterTells': WHATEVER THE INPUT: true; the input reads as it did. -/
def rosterTellsSpec : ChangeSpec := { name := "rosterTells", fn := fun _ => fun
  | [d1, d2, d3] => { results := [.lit (.bool true)], args := [d1, d2, d3] }
  | _ => none }
def rosterTellsRow : OpenClaim := { program := "ytgliaanopmlmfaa", sum := "4ee63c4eecdf7fda186cf4533379f489aa5245807d67d782a13109d43bf713b6", func := "plexus/plexuslaw18.RosterTells", spec := "rosterTells", unfollowed := true, recurses := true, plainKeys := false, apart := false }
def RosterTellsSaid : Prop := rosterTellsRow.holds Try.pinned (OpenSpec.ofChange rosterTellsSpec)

/-- ITS FALSE NEIGHBOUR: 'it returns false'. Refute it at one input. -/
def rosterTellsWrong : ChangeSpec := { name := "rosterTells", fn := fun _ => fun
  | [d1, d2, d3] => { results := [.lit (.bool false)], args := [d1, d2, d3] }
  | _ => none }
def RosterTellsWrongFalsely : Prop := rosterTellsRow.holds Try.pinned (OpenSpec.ofChange rosterTellsWrong)

/-- 'plexuslaw18.RosterOrder': WHATEVER THE INPUT: true; the input reads as it did. -/
def rosterOrderSpec : ChangeSpec := { name := "rosterOrder", fn := fun _ => fun
  | [d1, d2, d3, d4] => { results := [.lit (.bool true)], args := [d1, d2, d3, d4] }
  | _ => none }
def rosterOrderRow : OpenClaim := { program := "ytgliaanopmlmfaa", sum := "4ee63c4eecdf7fda186cf4533379f489aa5245807d67d782a13109d43bf713b6", func := "plexus/plexuslaw18.RosterOrder", spec := "rosterOrder", unfollowed := true, recurses := true, plainKeys := false, apart := false }
def RosterOrderSaid : Prop := rosterOrderRow.holds Try.pinned (OpenSpec.ofChange rosterOrderSpec)

/-- ITS FALSE NEIGHBOUR: 'it returns false'. Refute it at one input. -/
def rosterOrderWrong : ChangeSpec := { name := "rosterOrder", fn := fun _ => fun
  | [d1, d2, d3, d4] => { results := [.lit (.bool false)], args := [d1, d2, d3, d4] }
  | _ => none }
def RosterOrderWrongFalsely : Prop := rosterOrderRow.holds Try.pinned (OpenSpec.ofChange rosterOrderWrong)

/-- 'plexuslaw25.ViewPicks': WHATEVER THE INPUT: true; the input reads as it did. -/
def viewPicksSpec : ChangeSpec := { name := "viewPicks", fn := fun _ => fun
  | [d1, d2, d3] => { results := [.lit (.bool true)], args := [d1, d2, d3] }
  | _ => none }
def viewPicksRow : OpenClaim := { program := "ytgliaanopmlmfaa", sum := "4ee63c4eecdf7fda186cf4533379f489aa5245807d67d782a13109d43bf713b6", func := "plexus/plexuslaw25.ViewPicks", spec := "viewPicks", unfollowed := true, recurses := true, plainKeys := false, apart := false }
def ViewPicksSaid : Prop := viewPicksRow.holds Try.pinned (OpenSpec.ofChange viewPicksSpec)

/-- ITS FALSE NEIGHBOUR: 'it returns false'. Refute it at one input. -/
def viewPicksWrong : ChangeSpec := { name := "viewPicks", fn := fun _ => fun
  | [d1, d2, d3] => { results := [.lit (.bool false)], args := [d1, d2, d3] }
  | _ => none }
def ViewPicksWrongFalsely : Prop := viewPicksRow.holds Try.pinned (OpenSpec.ofChange viewPicksWrong)

/-- 'plexuslaw25.ViewTells': WHATEVER THE INPUT: true; the input reads as it did. -/
def viewTellsSpec : ChangeSpec := { name := "viewTells", fn := fun _ => fun
  | [d1, d2, d3, d4, d5] => { results := [.lit (.bool true)], args := [d1, d2, d3, d4, d5] }
  | _ => none }
def viewTellsRow : OpenClaim := { program := "ytgliaanopmlmfaa", sum := "4ee63c4eecdf7fda186cf4533379f489aa5245807d67d782a13109d43bf713b6", func := "plexus/plexuslaw25.ViewTells", spec := "viewTells", unfollowed := true, recurses := true, plainKeys := false, apart := false }
def ViewTellsSaid : Prop := viewTellsRow.holds Try.pinned (OpenSpec.ofChange viewTellsSpec)

/-- ITS FALSE NEIGHBOUR: 'it returns false'. Refute it at one input. -/
def viewTellsWrong : ChangeSpec := { name := "viewTells", fn := fun _ => fun
  | [d1, d2, d3, d4, d5] => { results := [.lit (.bool false)], args := [d1, d2, d3, d4, d5] }
  | _ => none }
def ViewTellsWrongFalsely : Prop := viewTellsRow.holds Try.pinned (OpenSpec.ofChange viewTellsWrong)

/-- 'plexuslaw25.ViewKeeps': WHATEVER THE INPUT: true; the input reads as it did. -/
def viewKeepsSpec : ChangeSpec := { name := "viewKeeps", fn := fun _ => fun
  | [d1, d2, d3] => { results := [.lit (.bool true)], args := [d1, d2, d3] }
  | _ => none }
def viewKeepsRow : OpenClaim := { program := "ytgliaanopmlmfaa", sum := "4ee63c4eecdf7fda186cf4533379f489aa5245807d67d782a13109d43bf713b6", func := "plexus/plexuslaw25.ViewKeeps", spec := "viewKeeps", unfollowed := true, recurses := true, plainKeys := false, apart := false }
def ViewKeepsSaid : Prop := viewKeepsRow.holds Try.pinned (OpenSpec.ofChange viewKeepsSpec)

/-- ITS FALSE NEIGHBOUR: 'it returns false'. Refute it at one input. -/
def viewKeepsWrong : ChangeSpec := { name := "viewKeeps", fn := fun _ => fun
  | [d1, d2, d3] => { results := [.lit (.bool false)], args := [d1, d2, d3] }
  | _ => none }
def ViewKeepsWrongFalsely : Prop := viewKeepsRow.holds Try.pinned (OpenSpec.ofChange viewKeepsWrong)

/-- 'plexuslaw09.RegisterAll': WHATEVER THE INPUT: true; the input reads as it did. -/
def registerAllSpec : ChangeSpec := { name := "registerAll", fn := fun _ => fun
  | [d1, d2, d3, d4, d5] => { results := [.lit (.bool true)], args := [d1, d2, d3, d4, d5] }
  | _ => none }
def registerAllRow : OpenClaim := { program := "ytgliaanopmlmfaa", sum := "4ee63c4eecdf7fda186cf4533379f489aa5245807d67d782a13109d43bf713b6", func := "plexus/plexuslaw09.RegisterAll", spec := "registerAll", inPlace := ["slices.overlaps[plexus/api.Write]"], unfollowed := true, recurses := true, plainKeys := false, apart := false }
def RegisterAllSaid : Prop := registerAllRow.holds Try.pinned (OpenSpec.ofChange registerAllSpec)

/-- ITS FALSE NEIGHBOUR: 'it returns false'. Refute it at one input. -/
def registerAllWrong : ChangeSpec := { name := "registerAll", fn := fun _ => fun
  | [d1, d2, d3, d4, d5] => { results := [.lit (.bool false)], args := [d1, d2, d3, d4, d5] }
  | _ => none }
def RegisterAllWrongFalsely : Prop := registerAllRow.holds Try.pinned (OpenSpec.ofChange registerAllWrong)

/-- 'plexuslaw09.RegisterTells': WHATEVER THE INPUT: true; the input reads as it did. -/
def registerTellsSpec : ChangeSpec := { name := "registerTells", fn := fun _ => fun
  | [d1, d2, d3, d4] => { results := [.lit (.bool true)], args := [d1, d2, d3, d4] }
  | _ => none }
def registerTellsRow : OpenClaim := { program := "ytgliaanopmlmfaa", sum := "4ee63c4eecdf7fda186cf4533379f489aa5245807d67d782a13109d43bf713b6", func := "plexus/plexuslaw09.RegisterTells", spec := "registerTells", inPlace := ["slices.overlaps[plexus/api.Write]"], unfollowed := true, recurses := true, plainKeys := false, apart := false }
def RegisterTellsSaid : Prop := registerTellsRow.holds Try.pinned (OpenSpec.ofChange registerTellsSpec)

/-- ITS FALSE NEIGHBOUR: 'it returns false'. Refute it at one input. -/
def registerTellsWrong : ChangeSpec := { name := "registerTells", fn := fun _ => fun
  | [d1, d2, d3, d4] => { results := [.lit (.bool false)], args := [d1, d2, d3, d4] }
  | _ => none }
def RegisterTellsWrongFalsely : Prop := registerTellsRow.holds Try.pinned (OpenSpec.ofChange registerTellsWrong)

/-- 'plexuslaw09.RegisterOrder': WHATEVER THE INPUT: true; the input reads as it did. -/
def registerOrderSpec : ChangeSpec := { name := "registerOrder", fn := fun _ => fun
  | [d1, d2, d3, d4, d5] => { results := [.lit (.bool true)], args := [d1, d2, d3, d4, d5] }
  | _ => none }
def registerOrderRow : OpenClaim := { program := "ytgliaanopmlmfaa", sum := "4ee63c4eecdf7fda186cf4533379f489aa5245807d67d782a13109d43bf713b6", func := "plexus/plexuslaw09.RegisterOrder", spec := "registerOrder", inPlace := ["slices.overlaps[plexus/api.Write]"], unfollowed := true, recurses := true, plainKeys := false, apart := false }
def RegisterOrderSaid : Prop := registerOrderRow.holds Try.pinned (OpenSpec.ofChange registerOrderSpec)

/-- ITS FALSE NEIGHBOUR: 'it returns false'. Refute it at one input. -/
def registerOrderWrong : ChangeSpec := { name := "registerOrder", fn := fun _ => fun
  | [d1, d2, d3, d4, d5] => { results := [.lit (.bool false)], args := [d1, d2, d3, d4, d5] }
  | _ => none }
def RegisterOrderWrongFalsely : Prop := registerOrderRow.holds Try.pinned (OpenSpec.ofChange registerOrderWrong)

/-- 'plexuslaw09.RegisterLast': WHATEVER THE INPUT: true; the input reads as it did. -/
def registerLastSpec : ChangeSpec := { name := "registerLast", fn := fun _ => fun
  | [d1, d2, d3] => { results := [.lit (.bool true)], args := [d1, d2, d3] }
  | _ => none }
def registerLastRow : OpenClaim := { program := "ytgliaanopmlmfaa", sum := "4ee63c4eecdf7fda186cf4533379f489aa5245807d67d782a13109d43bf713b6", func := "plexus/plexuslaw09.RegisterLast", spec := "registerLast", inPlace := ["slices.overlaps[plexus/api.Write]"], unfollowed := true, recurses := true, plainKeys := false, apart := false }
def RegisterLastSaid : Prop := registerLastRow.holds Try.pinned (OpenSpec.ofChange registerLastSpec)

/-- ITS FALSE NEIGHBOUR: 'it returns false'. Refute it at one input. -/
def registerLastWrong : ChangeSpec := { name := "registerLast", fn := fun _ => fun
  | [d1, d2, d3] => { results := [.lit (.bool false)], args := [d1, d2, d3] }
  | _ => none }
def RegisterLastWrongFalsely : Prop := registerLastRow.holds Try.pinned (OpenSpec.ofChange registerLastWrong)

/-- 'plexuslaw35.GraphTells': WHATEVER THE INPUT: true; the input reads as it did. -/
def graphTellsSpec : ChangeSpec := { name := "graphTells", fn := fun _ => fun
  | [d1, d2, d3] => { results := [.lit (.bool true)], args := [d1, d2, d3] }
  | _ => none }
def graphTellsRow : OpenClaim := { program := "ytgliaanopmlmfaa", sum := "4ee63c4eecdf7fda186cf4533379f489aa5245807d67d782a13109d43bf713b6", func := "plexus/plexuslaw35.GraphTells", spec := "graphTells", unfollowed := true, recurses := true, plainKeys := false, apart := false }
def GraphTellsSaid : Prop := graphTellsRow.holds Try.pinned (OpenSpec.ofChange graphTellsSpec)

/-- ITS FALSE NEIGHBOUR: 'it returns false'. Refute it at one input. -/
def graphTellsWrong : ChangeSpec := { name := "graphTells", fn := fun _ => fun
  | [d1, d2, d3] => { results := [.lit (.bool false)], args := [d1, d2, d3] }
  | _ => none }
def GraphTellsWrongFalsely : Prop := graphTellsRow.holds Try.pinned (OpenSpec.ofChange graphTellsWrong)

/-- 'plexuslaw35.GraphSorts': WHATEVER THE INPUT: true; the input reads as it did. -/
def graphSortsSpec : ChangeSpec := { name := "graphSorts", fn := fun _ => fun
  | [d] => { results := [.lit (.bool true)], args := [d] }
  | _ => none }
def graphSortsRow : OpenClaim := { program := "ytgliaanopmlmfaa", sum := "4ee63c4eecdf7fda186cf4533379f489aa5245807d67d782a13109d43bf713b6", func := "plexus/plexuslaw35.GraphSorts", spec := "graphSorts", unfollowed := true, recurses := true, plainKeys := false, apart := false }
def GraphSortsSaid : Prop := graphSortsRow.holds Try.pinned (OpenSpec.ofChange graphSortsSpec)

/-- ITS FALSE NEIGHBOUR: 'it returns false'. Refute it at one input. -/
def graphSortsWrong : ChangeSpec := { name := "graphSorts", fn := fun _ => fun
  | [d] => { results := [.lit (.bool false)], args := [d] }
  | _ => none }
def GraphSortsWrongFalsely : Prop := graphSortsRow.holds Try.pinned (OpenSpec.ofChange graphSortsWrong)

/- THE SECOND FORM. 'bulk': how many values and letters a reading holds, each counted each time it is reached (what is shared counts as often as it is met; a slice's spare places count too). A statement '..UptoSaid' is the law's where the arguments, and the package variables that the reading takes, are together of bulk at most 1048576: NARROWER than '..Said'. Prove '..Said' where nothing that the law and all that it calls make is longer than what came in: it says more and counts as full. Else prove '..UptoSaid'. A law counts once. -/
mutual
def uptoBulk {H : Type} : DataW H → Nat
  | .lit (.string bytes) => bytes.length + 1
  | .lit _ => 1
  | .nil => 1
  | .ptr d => uptoBulk d + 1
  | .slice elems spare => uptoBulkAll elems + uptoBulkAll spare + 1
  | .agg parts => uptoBulkAll parts + 1
  | .iface _ d => uptoBulk d + 1
  | .map entries => uptoBulkEntries entries + 1
  | .held _ => 1
def uptoBulkAll {H : Type} : List (DataW H) → Nat
  | [] => 0
  | d :: r => uptoBulk d + uptoBulkAll r
def uptoBulkEntries {H : Type} : List (Lit × DataW H) → Nat
  | [] => 0
  | x :: r => uptoBulkEntry x + uptoBulkEntries r
def uptoBulkEntry {H : Type} : Lit × DataW H → Nat
  | (.string bytes, d) => bytes.length + uptoBulk d + 1
  | (_, d) => uptoBulk d + 1
 end
def uptoSmall : (H : Type) → List (DataW H) → Bool := fun _ ds => decide (uptoBulkAll ds ≤ 1048576)
def OpenSpec.upto (s : _root_.Go.ChangeSpec) : _root_.Go.OpenSpec := { _root_.Go.OpenSpec.ofChange s with cond := some uptoSmall }

/-- 'plexuslaw18.RosterLives', WHERE WHAT IT READS IS OF BULK AT MOST 1048576: true; the input reads as it did. -/
def rosterLivesUptoRow : OpenClaim := { program := "ytgliaanopmlmfaa", sum := "4ee63c4eecdf7fda186cf4533379f489aa5245807d67d782a13109d43bf713b6", func := "plexus/plexuslaw18.RosterLives", spec := "rosterLives", unfollowed := true, recurses := true, plainKeys := false, apart := false, narrowed := true }
def RosterLivesUptoSaid : Prop := rosterLivesUptoRow.holds Try.pinned (OpenSpec.upto rosterLivesSpec)

/-- 'plexuslaw18.RosterTells', WHERE WHAT IT READS IS OF BULK AT MOST 1048576: true; the input reads as it did. -/
def rosterTellsUptoRow : OpenClaim := { program := "ytgliaanopmlmfaa", sum := "4ee63c4eecdf7fda186cf4533379f489aa5245807d67d782a13109d43bf713b6", func := "plexus/plexuslaw18.RosterTells", spec := "rosterTells", unfollowed := true, recurses := true, plainKeys := false, apart := false, narrowed := true }
def RosterTellsUptoSaid : Prop := rosterTellsUptoRow.holds Try.pinned (OpenSpec.upto rosterTellsSpec)

/-- 'plexuslaw18.RosterOrder', WHERE WHAT IT READS IS OF BULK AT MOST 1048576: true; the input reads as it did. -/
def rosterOrderUptoRow : OpenClaim := { program := "ytgliaanopmlmfaa", sum := "4ee63c4eecdf7fda186cf4533379f489aa5245807d67d782a13109d43bf713b6", func := "plexus/plexuslaw18.RosterOrder", spec := "rosterOrder", unfollowed := true, recurses := true, plainKeys := false, apart := false, narrowed := true }
def RosterOrderUptoSaid : Prop := rosterOrderUptoRow.holds Try.pinned (OpenSpec.upto rosterOrderSpec)

/-- 'plexuslaw25.ViewPicks', WHERE WHAT IT READS IS OF BULK AT MOST 1048576: true; the input reads as it did. -/
def viewPicksUptoRow : OpenClaim := { program := "ytgliaanopmlmfaa", sum := "4ee63c4eecdf7fda186cf4533379f489aa5245807d67d782a13109d43bf713b6", func := "plexus/plexuslaw25.ViewPicks", spec := "viewPicks", unfollowed := true, recurses := true, plainKeys := false, apart := false, narrowed := true }
def ViewPicksUptoSaid : Prop := viewPicksUptoRow.holds Try.pinned (OpenSpec.upto viewPicksSpec)

/-- 'plexuslaw25.ViewTells', WHERE WHAT IT READS IS OF BULK AT MOST 1048576: true; the input reads as it did. -/
def viewTellsUptoRow : OpenClaim := { program := "ytgliaanopmlmfaa", sum := "4ee63c4eecdf7fda186cf4533379f489aa5245807d67d782a13109d43bf713b6", func := "plexus/plexuslaw25.ViewTells", spec := "viewTells", unfollowed := true, recurses := true, plainKeys := false, apart := false, narrowed := true }
def ViewTellsUptoSaid : Prop := viewTellsUptoRow.holds Try.pinned (OpenSpec.upto viewTellsSpec)

/-- 'plexuslaw25.ViewKeeps', WHERE WHAT IT READS IS OF BULK AT MOST 1048576: true; the input reads as it did. -/
def viewKeepsUptoRow : OpenClaim := { program := "ytgliaanopmlmfaa", sum := "4ee63c4eecdf7fda186cf4533379f489aa5245807d67d782a13109d43bf713b6", func := "plexus/plexuslaw25.ViewKeeps", spec := "viewKeeps", unfollowed := true, recurses := true, plainKeys := false, apart := false, narrowed := true }
def ViewKeepsUptoSaid : Prop := viewKeepsUptoRow.holds Try.pinned (OpenSpec.upto viewKeepsSpec)

/-- 'plexuslaw09.RegisterAll', WHERE WHAT IT READS IS OF BULK AT MOST 1048576: true; the input reads as it did. -/
def registerAllUptoRow : OpenClaim := { program := "ytgliaanopmlmfaa", sum := "4ee63c4eecdf7fda186cf4533379f489aa5245807d67d782a13109d43bf713b6", func := "plexus/plexuslaw09.RegisterAll", spec := "registerAll", inPlace := ["slices.overlaps[plexus/api.Write]"], unfollowed := true, recurses := true, plainKeys := false, apart := false, narrowed := true }
def RegisterAllUptoSaid : Prop := registerAllUptoRow.holds Try.pinned (OpenSpec.upto registerAllSpec)

/-- 'plexuslaw09.RegisterTells', WHERE WHAT IT READS IS OF BULK AT MOST 1048576: true; the input reads as it did. -/
def registerTellsUptoRow : OpenClaim := { program := "ytgliaanopmlmfaa", sum := "4ee63c4eecdf7fda186cf4533379f489aa5245807d67d782a13109d43bf713b6", func := "plexus/plexuslaw09.RegisterTells", spec := "registerTells", inPlace := ["slices.overlaps[plexus/api.Write]"], unfollowed := true, recurses := true, plainKeys := false, apart := false, narrowed := true }
def RegisterTellsUptoSaid : Prop := registerTellsUptoRow.holds Try.pinned (OpenSpec.upto registerTellsSpec)

/-- 'plexuslaw09.RegisterOrder', WHERE WHAT IT READS IS OF BULK AT MOST 1048576: true; the input reads as it did. -/
def registerOrderUptoRow : OpenClaim := { program := "ytgliaanopmlmfaa", sum := "4ee63c4eecdf7fda186cf4533379f489aa5245807d67d782a13109d43bf713b6", func := "plexus/plexuslaw09.RegisterOrder", spec := "registerOrder", inPlace := ["slices.overlaps[plexus/api.Write]"], unfollowed := true, recurses := true, plainKeys := false, apart := false, narrowed := true }
def RegisterOrderUptoSaid : Prop := registerOrderUptoRow.holds Try.pinned (OpenSpec.upto registerOrderSpec)

/-- 'plexuslaw09.RegisterLast', WHERE WHAT IT READS IS OF BULK AT MOST 1048576: true; the input reads as it did. -/
def registerLastUptoRow : OpenClaim := { program := "ytgliaanopmlmfaa", sum := "4ee63c4eecdf7fda186cf4533379f489aa5245807d67d782a13109d43bf713b6", func := "plexus/plexuslaw09.RegisterLast", spec := "registerLast", inPlace := ["slices.overlaps[plexus/api.Write]"], unfollowed := true, recurses := true, plainKeys := false, apart := false, narrowed := true }
def RegisterLastUptoSaid : Prop := registerLastUptoRow.holds Try.pinned (OpenSpec.upto registerLastSpec)

/-- 'plexuslaw35.GraphTells', WHERE WHAT IT READS IS OF BULK AT MOST 1048576: true; the input reads as it did. -/
def graphTellsUptoRow : OpenClaim := { program := "ytgliaanopmlmfaa", sum := "4ee63c4eecdf7fda186cf4533379f489aa5245807d67d782a13109d43bf713b6", func := "plexus/plexuslaw35.GraphTells", spec := "graphTells", unfollowed := true, recurses := true, plainKeys := false, apart := false, narrowed := true }
def GraphTellsUptoSaid : Prop := graphTellsUptoRow.holds Try.pinned (OpenSpec.upto graphTellsSpec)

/-- 'plexuslaw35.GraphSorts', WHERE WHAT IT READS IS OF BULK AT MOST 1048576: true; the input reads as it did. -/
def graphSortsUptoRow : OpenClaim := { program := "ytgliaanopmlmfaa", sum := "4ee63c4eecdf7fda186cf4533379f489aa5245807d67d782a13109d43bf713b6", func := "plexus/plexuslaw35.GraphSorts", spec := "graphSorts", unfollowed := true, recurses := true, plainKeys := false, apart := false, narrowed := true }
def GraphSortsUptoSaid : Prop := graphSortsUptoRow.holds Try.pinned (OpenSpec.upto graphSortsSpec)

end Rows
end Go.Proofs.Ytgliaanopmlmfaa
