/-
  No cell of these rows narrows 'for every input' (looked for: loops, veiled, ifaces, maps, wideKeys, modest, calm, conditions, laid).
  DERIVED. THE GIVEN ROWS OF THIS SEAT. 4 by the template 'for every input the law returns true; each argument reads behind the call as it read before'; 0 by the template 'total and deterministic' (their statements: YtehcjnendfpbaaaGreatTotals.lean).
  GIVEN WITH THE SEED: the statements are not yours to turn. If you find one false, say at which input.
  Laid BY PROGRAM, IN A SANDBOX (cutbox-rows.mjs): the forced cells as the released guide's own fill.sh prints them over the translation 5f806ad540950c47… (all of the seat's roots in one cut). By AI agents, Wed Nov 11 2026. No macro, syntax, notation, axiom, sorry.
-/
import Derived.Test.YtehcjnendfpbaaaGreatChecked
import GoSem.Claim
import GoSem.ClaimJoined
import GoSem.ClaimMapViews
import Derived.JoinedTies
import Derived.KernelRfl
namespace Go.Proofs.YtehcjnendfpbaaaGreat
/- THE CELL 'sum', in the pinned program and in every row, IS THE sha256 OF THE DUMP (.gsa) THAT YtehcjnendfpbaaaGreatProg.lean LOADS. Nothing in Lean hashes anything: it is a label: what it is worth is what the hold of that sum in a sandbox is worth. -/
noncomputable def Tryz.pinned : Pinned := { name := "ytehcjnendfpbaaagreat", sum := "5f806ad540950c47d6d0b7e72e132f7409b354cf3a34aa0a9c09e4f19d4ea8c7", checked := Tryz.checked }
namespace Rows
def none {H : Type} : Left H := { results := [], args := [] }

/-- 'plexuslaw12.CellApart': WHATEVER THE INPUT: true; the input reads as it did. -/
def cellApartSpec : ChangeSpec := { name := "cellApart", fn := fun _ => fun
  | [d1, d2, d3, d4, d5] => { results := [.lit (.bool true)], args := [d1, d2, d3, d4, d5] }
  | _ => none }
def cellApartRow : OpenClaim := { program := "ytehcjnendfpbaaagreat", sum := "5f806ad540950c47d6d0b7e72e132f7409b354cf3a34aa0a9c09e4f19d4ea8c7", func := "plexus/plexuslaw12.CellApart", spec := "cellApart", unfollowed := true, recurses := true, plainKeys := false, apart := false }
def CellApartSaid : Prop := cellApartRow.holds Tryz.pinned (OpenSpec.ofChange cellApartSpec)

/-- ITS FALSE NEIGHBOUR: 'it returns false'. Refute it at one input. -/
def cellApartWrong : ChangeSpec := { name := "cellApart", fn := fun _ => fun
  | [d1, d2, d3, d4, d5] => { results := [.lit (.bool false)], args := [d1, d2, d3, d4, d5] }
  | _ => none }
def CellApartWrongFalsely : Prop := cellApartRow.holds Tryz.pinned (OpenSpec.ofChange cellApartWrong)

/-- 'plexuslaw12.CellClears': WHATEVER THE INPUT: true; the input reads as it did. -/
def cellClearsSpec : ChangeSpec := { name := "cellClears", fn := fun _ => fun
  | [d1, d2] => { results := [.lit (.bool true)], args := [d1, d2] }
  | _ => none }
def cellClearsRow : OpenClaim := { program := "ytehcjnendfpbaaagreat", sum := "5f806ad540950c47d6d0b7e72e132f7409b354cf3a34aa0a9c09e4f19d4ea8c7", func := "plexus/plexuslaw12.CellClears", spec := "cellClears", unfollowed := true, recurses := true, plainKeys := false, apart := false }
def CellClearsSaid : Prop := cellClearsRow.holds Tryz.pinned (OpenSpec.ofChange cellClearsSpec)

/-- ITS FALSE NEIGHBOUR: 'it returns false'. Refute it at one input. -/
def cellClearsWrong : ChangeSpec := { name := "cellClears", fn := fun _ => fun
  | [d1, d2] => { results := [.lit (.bool false)], args := [d1, d2] }
  | _ => none }
def CellClearsWrongFalsely : Prop := cellClearsRow.holds Tryz.pinned (OpenSpec.ofChange cellClearsWrong)

/-- 'plexuslaw12.CellTells': WHATEVER THE INPUT: true; the input reads as it did. -/
def cellTellsSpec : ChangeSpec := { name := "cellTells", fn := fun _ => fun
  | [d1, d2, d3, d4, d5, d6] => { results := [.lit (.bool true)], args := [d1, d2, d3, d4, d5, d6] }
  | _ => none }
def cellTellsRow : OpenClaim := { program := "ytehcjnendfpbaaagreat", sum := "5f806ad540950c47d6d0b7e72e132f7409b354cf3a34aa0a9c09e4f19d4ea8c7", func := "plexus/plexuslaw12.CellTells", spec := "cellTells", unfollowed := true, recurses := true, plainKeys := false, apart := false }
def CellTellsSaid : Prop := cellTellsRow.holds Tryz.pinned (OpenSpec.ofChange cellTellsSpec)

/-- ITS FALSE NEIGHBOUR: 'it returns false'. Refute it at one input. -/
def cellTellsWrong : ChangeSpec := { name := "cellTells", fn := fun _ => fun
  | [d1, d2, d3, d4, d5, d6] => { results := [.lit (.bool false)], args := [d1, d2, d3, d4, d5, d6] }
  | _ => none }
def CellTellsWrongFalsely : Prop := cellTellsRow.holds Tryz.pinned (OpenSpec.ofChange cellTellsWrong)

/-- 'plexuslaw12.CellKeeps': WHATEVER THE INPUT: true; the input reads as it did. -/
def cellKeepsSpec : ChangeSpec := { name := "cellKeeps", fn := fun _ => fun
  | [d1, d2, d3, d4, d5] => { results := [.lit (.bool true)], args := [d1, d2, d3, d4, d5] }
  | _ => none }
def cellKeepsRow : OpenClaim := { program := "ytehcjnendfpbaaagreat", sum := "5f806ad540950c47d6d0b7e72e132f7409b354cf3a34aa0a9c09e4f19d4ea8c7", func := "plexus/plexuslaw12.CellKeeps", spec := "cellKeeps", unfollowed := true, recurses := true, plainKeys := false, apart := false }
def CellKeepsSaid : Prop := cellKeepsRow.holds Tryz.pinned (OpenSpec.ofChange cellKeepsSpec)

/-- ITS FALSE NEIGHBOUR: 'it returns false'. Refute it at one input. -/
def cellKeepsWrong : ChangeSpec := { name := "cellKeeps", fn := fun _ => fun
  | [d1, d2, d3, d4, d5] => { results := [.lit (.bool false)], args := [d1, d2, d3, d4, d5] }
  | _ => none }
def CellKeepsWrongFalsely : Prop := cellKeepsRow.holds Tryz.pinned (OpenSpec.ofChange cellKeepsWrong)

/- THE SECOND FORM. 'bulk': how many values and letters a reading holds, each counted each time it is reached (what is shared counts as often as it is met; a slice's spare places count too). A statement '..UptoSaid' is the law's where the arguments, and the package variables that the reading takes, are together of bulk at most 1048576: NARROWER than '..Said'. Prove '..Said' where nothing that the law and all that it calls make is longer than what came in: it says more and counts as full. Else prove '..UptoSaid'. A law counts once. -/
mutual
def uptoBulk {H : Type} : DataW H → Nat
  | .lit (.string bytes) => bytes.length + 1
  | .lit _ => 1
  | .nil => 1
  | .ptr d => uptoBulk d + 1
  | .slice elems spare => uptoBulkAll elems + uptoBulkAll spare + 1
  | .agg parts => uptoBulkAll parts + 1
  | .iface _ d => uptoBulk d + 1
  | .map entries => uptoBulkEntries entries + 1
  | .held _ => 1
def uptoBulkAll {H : Type} : List (DataW H) → Nat
  | [] => 0
  | d :: r => uptoBulk d + uptoBulkAll r
def uptoBulkEntries {H : Type} : List (Lit × DataW H) → Nat
  | [] => 0
  | x :: r => uptoBulkEntry x + uptoBulkEntries r
def uptoBulkEntry {H : Type} : Lit × DataW H → Nat
  | (.string bytes, d) => bytes.length + uptoBulk d + 1
  | (_, d) => uptoBulk d + 1
 end
def uptoSmall : (H : Type) → List (DataW H) → Bool := fun _ ds => decide (uptoBulkAll ds ≤ 1048576)
def OpenSpec.upto (s : _root_.Go.ChangeSpec) : _root_.Go.OpenSpec := { _root_.Go.OpenSpec.ofChange s with cond := some uptoSmall }

/-- 'plexuslaw12.CellApart', WHERE WHAT IT READS IS OF BULK AT MOST 1048576: true; the input reads as it did. -/
def cellApartUptoRow : OpenClaim := { program := "ytehcjnendfpbaaagreat", sum := "5f806ad540950c47d6d0b7e72e132f7409b354cf3a34aa0a9c09e4f19d4ea8c7", func := "plexus/plexuslaw12.CellApart", spec := "cellApart", unfollowed := true, recurses := true, plainKeys := false, apart := false, narrowed := true }
def CellApartUptoSaid : Prop := cellApartUptoRow.holds Tryz.pinned (OpenSpec.upto cellApartSpec)

/-- 'plexuslaw12.CellClears', WHERE WHAT IT READS IS OF BULK AT MOST 1048576: true; the input reads as it did. -/
def cellClearsUptoRow : OpenClaim := { program := "ytehcjnendfpbaaagreat", sum := "5f806ad540950c47d6d0b7e72e132f7409b354cf3a34aa0a9c09e4f19d4ea8c7", func := "plexus/plexuslaw12.CellClears", spec := "cellClears", unfollowed := true, recurses := true, plainKeys := false, apart := false, narrowed := true }
def CellClearsUptoSaid : Prop := cellClearsUptoRow.holds Tryz.pinned (OpenSpec.upto cellClearsSpec)

/-- 'plexuslaw12.CellTells', WHERE WHAT IT READS IS OF BULK AT MOST 1048576: true; the input reads as it did. -/
def cellTellsUptoRow : OpenClaim := { program := "ytehcjnendfpbaaagreat", sum := "5f806ad540950c47d6d0b7e72e132f7409b354cf3a34aa0a9c09e4f19d4ea8c7", func := "plexus/plexuslaw12.CellTells", spec := "cellTells", unfollowed := true, recurses := true, plainKeys := false, apart := false, narrowed := true }
def CellTellsUptoSaid : Prop := cellTellsUptoRow.holds Tryz.pinned (OpenSpec.upto cellTellsSpec)

/-- 'plexuslaw12.CellKeeps', WHERE WHAT IT READS IS OF BULK AT MOST 1048576: true; the input reads as it did. -/
def cellKeepsUptoRow : OpenClaim := { program := "ytehcjnendfpbaaagreat", sum := "5f806ad540950c47d6d0b7e72e132f7409b354cf3a34aa0a9c09e4f19d4ea8c7", func := "plexus/plexuslaw12.CellKeeps", spec := "cellKeeps", unfollowed := true, recurses := true, plainKeys := false, apart := false, narrowed := true }
def CellKeepsUptoSaid : Prop := cellKeepsUptoRow.holds Tryz.pinned (OpenSpec.upto cellKeepsSpec)

end Rows
end Go.Proofs.YtehcjnendfpbaaaGreat
