/-
  NARROWER THAN 'FOR EVERY INPUT', by the rows' own cells (each row's printed sentence says how): OverlayTells: loops · OverlayKeeps: loops.
  DERIVED. THE GIVEN ROWS OF THIS SEAT. 4 by the template 'for every input the law returns true; each argument reads behind the call as it read before'; 0 by the template 'total and deterministic' (their statements: YtjafmlbcjhoflaaGreatTotals.lean).
  GIVEN WITH THE SEED: the statements are not yours to turn. If you find one false, say at which input.
  Laid BY PROGRAM, IN A SANDBOX (cutbox-rows.mjs): the forced cells as the released guide's own fill.sh prints them over the translation 917bcb4869dbb062… (all of the seat's roots in one cut). By AI agents, Wed Nov 11 2026. No macro, syntax, notation, axiom, sorry.
-/
import Derived.Test.YtjafmlbcjhoflaaGreatChecked
import GoSem.Claim
import GoSem.ClaimJoined
import GoSem.ClaimMapViews
import Derived.JoinedTies
import Derived.KernelRfl
namespace Go.Proofs.YtjafmlbcjhoflaaGreat
/- THE CELL 'sum', in the pinned program and in every row, IS THE sha256 OF THE DUMP (.gsa) THAT YtjafmlbcjhoflaaGreatProg.lean LOADS. Nothing in Lean hashes anything: it is a label: what it is worth is what the hold of that sum in a sandbox is worth. -/
noncomputable def Tryz.pinned : Pinned := { name := "ytjafmlbcjhoflaagreat", sum := "917bcb4869dbb06205a732e9ba3562690634659f73b4af38bc9d7714c669c4b8", checked := Tryz.checked }
namespace Rows
def none {H : Type} : Left H := { results := [], args := [] }

/-- 'plexuslaw27.OverlayMeets': WHATEVER THE INPUT: true; the input reads as it did. -/
def overlayMeetsSpec : ChangeSpec := { name := "overlayMeets", fn := fun _ => fun
  | [d1, d2, d3, d4] => { results := [.lit (.bool true)], args := [d1, d2, d3, d4] }
  | _ => none }
def overlayMeetsRow : OpenClaim := { program := "ytjafmlbcjhoflaagreat", sum := "917bcb4869dbb06205a732e9ba3562690634659f73b4af38bc9d7714c669c4b8", func := "plexus/plexuslaw27.OverlayMeets", spec := "overlayMeets", unfollowed := true, recurses := true, apart := false }
def OverlayMeetsSaid : Prop := overlayMeetsRow.holds Tryz.pinned (OpenSpec.ofChange overlayMeetsSpec)

/-- ITS FALSE NEIGHBOUR: 'it returns false'. Refute it at one input. -/
def overlayMeetsWrong : ChangeSpec := { name := "overlayMeets", fn := fun _ => fun
  | [d1, d2, d3, d4] => { results := [.lit (.bool false)], args := [d1, d2, d3, d4] }
  | _ => none }
def OverlayMeetsWrongFalsely : Prop := overlayMeetsRow.holds Tryz.pinned (OpenSpec.ofChange overlayMeetsWrong)

/-- 'plexuslaw27.OverlayTells': WHATEVER THE INPUT: true; the input reads as it did. -/
def overlayTellsSpec : ChangeSpec := { name := "overlayTells", fn := fun _ => fun
  | [d1, d2, d3, d4] => { results := [.lit (.bool true)], args := [d1, d2, d3, d4] }
  | _ => none }
def overlayTellsRow : OpenClaim := { program := "ytjafmlbcjhoflaagreat", sum := "917bcb4869dbb06205a732e9ba3562690634659f73b4af38bc9d7714c669c4b8", func := "plexus/plexuslaw27.OverlayTells", spec := "overlayTells", unfollowed := true, recurses := true, loops := true, apart := false }
def OverlayTellsSaid : Prop := overlayTellsRow.holds Tryz.pinned (OpenSpec.ofChange overlayTellsSpec)

/-- ITS FALSE NEIGHBOUR: 'it returns false'. Refute it at one input. -/
def overlayTellsWrong : ChangeSpec := { name := "overlayTells", fn := fun _ => fun
  | [d1, d2, d3, d4] => { results := [.lit (.bool false)], args := [d1, d2, d3, d4] }
  | _ => none }
def OverlayTellsWrongFalsely : Prop := overlayTellsRow.holds Tryz.pinned (OpenSpec.ofChange overlayTellsWrong)

/-- 'plexuslaw27.OverlayKeeps': WHATEVER THE INPUT: true; the input reads as it did. -/
def overlayKeepsSpec : ChangeSpec := { name := "overlayKeeps", fn := fun _ => fun
  | [d1, d2, d3, d4] => { results := [.lit (.bool true)], args := [d1, d2, d3, d4] }
  | _ => none }
def overlayKeepsRow : OpenClaim := { program := "ytjafmlbcjhoflaagreat", sum := "917bcb4869dbb06205a732e9ba3562690634659f73b4af38bc9d7714c669c4b8", func := "plexus/plexuslaw27.OverlayKeeps", spec := "overlayKeeps", unfollowed := true, recurses := true, loops := true, apart := false }
def OverlayKeepsSaid : Prop := overlayKeepsRow.holds Tryz.pinned (OpenSpec.ofChange overlayKeepsSpec)

/-- ITS FALSE NEIGHBOUR: 'it returns false'. Refute it at one input. -/
def overlayKeepsWrong : ChangeSpec := { name := "overlayKeeps", fn := fun _ => fun
  | [d1, d2, d3, d4] => { results := [.lit (.bool false)], args := [d1, d2, d3, d4] }
  | _ => none }
def OverlayKeepsWrongFalsely : Prop := overlayKeepsRow.holds Tryz.pinned (OpenSpec.ofChange overlayKeepsWrong)

/-- 'plexuslaw27.OverlayEnds': WHATEVER THE INPUT: true; the input reads as it did. -/
def overlayEndsSpec : ChangeSpec := { name := "overlayEnds", fn := fun _ => fun
  | [d1, d2, d3, d4] => { results := [.lit (.bool true)], args := [d1, d2, d3, d4] }
  | _ => none }
def overlayEndsRow : OpenClaim := { program := "ytjafmlbcjhoflaagreat", sum := "917bcb4869dbb06205a732e9ba3562690634659f73b4af38bc9d7714c669c4b8", func := "plexus/plexuslaw27.OverlayEnds", spec := "overlayEnds", unfollowed := true, recurses := true, apart := false }
def OverlayEndsSaid : Prop := overlayEndsRow.holds Tryz.pinned (OpenSpec.ofChange overlayEndsSpec)

/-- ITS FALSE NEIGHBOUR: 'it returns false'. Refute it at one input. -/
def overlayEndsWrong : ChangeSpec := { name := "overlayEnds", fn := fun _ => fun
  | [d1, d2, d3, d4] => { results := [.lit (.bool false)], args := [d1, d2, d3, d4] }
  | _ => none }
def OverlayEndsWrongFalsely : Prop := overlayEndsRow.holds Tryz.pinned (OpenSpec.ofChange overlayEndsWrong)

/- THE SECOND FORM. 'bulk': how many values and letters a reading holds, each counted each time it is reached (what is shared counts as often as it is met; a slice's spare places count too). A statement '..UptoSaid' is the law's where the arguments, and the package variables that the reading takes, are together of bulk at most 1048576: NARROWER than '..Said'. Prove '..Said' where nothing that the law and all that it calls make is longer than what came in: it says more and counts as full. Else prove '..UptoSaid'. A law counts once. -/
mutual
def uptoBulk {H : Type} : DataW H → Nat
  | .lit (.string bytes) => bytes.length + 1
  | .lit _ => 1
  | .nil => 1
  | .ptr d => uptoBulk d + 1
  | .slice elems spare => uptoBulkAll elems + uptoBulkAll spare + 1
  | .agg parts => uptoBulkAll parts + 1
  | .iface _ d => uptoBulk d + 1
  | .map entries => uptoBulkEntries entries + 1
  | .held _ => 1
def uptoBulkAll {H : Type} : List (DataW H) → Nat
  | [] => 0
  | d :: r => uptoBulk d + uptoBulkAll r
def uptoBulkEntries {H : Type} : List (Lit × DataW H) → Nat
  | [] => 0
  | x :: r => uptoBulkEntry x + uptoBulkEntries r
def uptoBulkEntry {H : Type} : Lit × DataW H → Nat
  | (.string bytes, d) => bytes.length + uptoBulk d + 1
  | (_, d) => uptoBulk d + 1
 end
def uptoSmall : (H : Type) → List (DataW H) → Bool := fun _ ds => decide (uptoBulkAll ds ≤ 1048576)
def OpenSpec.upto (s : _root_.Go.ChangeSpec) : _root_.Go.OpenSpec := { _root_.Go.OpenSpec.ofChange s with cond := some uptoSmall }

/-- 'plexuslaw27.OverlayMeets', WHERE WHAT IT READS IS OF BULK AT MOST 1048576: true; the input reads as it did. -/
def overlayMeetsUptoRow : OpenClaim := { program := "ytjafmlbcjhoflaagreat", sum := "917bcb4869dbb06205a732e9ba3562690634659f73b4af38bc9d7714c669c4b8", func := "plexus/plexuslaw27.OverlayMeets", spec := "overlayMeets", unfollowed := true, recurses := true, apart := false, narrowed := true }
def OverlayMeetsUptoSaid : Prop := overlayMeetsUptoRow.holds Tryz.pinned (OpenSpec.upto overlayMeetsSpec)

/-- 'plexuslaw27.OverlayTells', WHERE WHAT IT READS IS OF BULK AT MOST 1048576: true; the input reads as it did. -/
def overlayTellsUptoRow : OpenClaim := { program := "ytjafmlbcjhoflaagreat", sum := "917bcb4869dbb06205a732e9ba3562690634659f73b4af38bc9d7714c669c4b8", func := "plexus/plexuslaw27.OverlayTells", spec := "overlayTells", unfollowed := true, recurses := true, loops := true, apart := false, narrowed := true }
def OverlayTellsUptoSaid : Prop := overlayTellsUptoRow.holds Tryz.pinned (OpenSpec.upto overlayTellsSpec)

/-- 'plexuslaw27.OverlayKeeps', WHERE WHAT IT READS IS OF BULK AT MOST 1048576: true; the input reads as it did. -/
def overlayKeepsUptoRow : OpenClaim := { program := "ytjafmlbcjhoflaagreat", sum := "917bcb4869dbb06205a732e9ba3562690634659f73b4af38bc9d7714c669c4b8", func := "plexus/plexuslaw27.OverlayKeeps", spec := "overlayKeeps", unfollowed := true, recurses := true, loops := true, apart := false, narrowed := true }
def OverlayKeepsUptoSaid : Prop := overlayKeepsUptoRow.holds Tryz.pinned (OpenSpec.upto overlayKeepsSpec)

/-- 'plexuslaw27.OverlayEnds', WHERE WHAT IT READS IS OF BULK AT MOST 1048576: true; the input reads as it did. -/
def overlayEndsUptoRow : OpenClaim := { program := "ytjafmlbcjhoflaagreat", sum := "917bcb4869dbb06205a732e9ba3562690634659f73b4af38bc9d7714c669c4b8", func := "plexus/plexuslaw27.OverlayEnds", spec := "overlayEnds", unfollowed := true, recurses := true, apart := false, narrowed := true }
def OverlayEndsUptoSaid : Prop := overlayEndsUptoRow.holds Tryz.pinned (OpenSpec.upto overlayEndsSpec)

end Rows
end Go.Proofs.YtjafmlbcjhoflaaGreat
