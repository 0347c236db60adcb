/-
  NARROWER THAN 'FOR EVERY INPUT', by the rows' own cells (each row's printed sentence says how): RibPlays: laid · RibCopies: laid.
  DERIVED. THE GIVEN ROWS OF THIS SEAT. 2 by the template 'for every input the law returns true; each argument reads behind the call as it read before'; 0 by the template 'total and deterministic' (their statements: YtnklbeigikcfkaaGreatDoorTotals.lean).
  GIVEN WITH THE SEED: the statements are not yours to turn. If you find one false, say at which input.
  Laid BY PROGRAM, IN A SANDBOX (cutbox-rows.mjs): the forced cells as the released guide's own fill.sh prints them over the translation 8e87facd65972d81… (all of the seat's roots in one cut). By AI agents, Wed Nov 11 2026. No macro, syntax, notation, axiom, sorry.
-/
import Derived.Test.YtnklbeigikcfkaaGreatDoorChecked
import GoSem.Claim
import GoSem.ClaimJoined
import GoSem.ClaimMapViews
import Derived.JoinedTies
import Derived.KernelRfl
namespace Go.Proofs.YtnklbeigikcfkaaGreatDoor
/- THE CELL 'sum', in the pinned program and in every row, IS THE sha256 OF THE DUMP (.gsa) THAT YtnklbeigikcfkaaGreatDoorProg.lean LOADS. Nothing in Lean hashes anything: it is a label: what it is worth is what the hold of that sum in a sandbox is worth. -/
noncomputable def Tryz.pinned : Pinned := { name := "ytnklbeigikcfkaagreatdoor", sum := "8e87facd65972d818942a9af477dd9fa3a6a89aca5cd5b57d223dde0aa835b77", checked := Tryz.checked }
namespace Rows
def none {H : Type} : Left H := { results := [], args := [] }

/- WHAT THE LISTED PACKAGE-LEVEL VARIABLES READ AS WHEN THE CALL BEGINS. Each datum BY PROGRAM (the guide's laid-datum.mjs) off the statement by which the dump's own 'gosem.cut.vars' lays the variable. In a bare row this is a premise. The card (YtnklbeigikcfkaaGreatDoorCards.lean) ties it to the program's text. -/
def laid_crossway_rib_distances {H : Type} : DataW H := .agg [.lit (.int .i64 0), .lit (.int .i64 1), .lit (.int .i64 20), .lit (.int .i64 110), .lit (.int .i64 120)]

/-- 'crosswaylaw15.RibPlays': WHATEVER THE INPUT: true; the input reads as it did. -/
def ribPlaysSpec : ChangeSpec := { name := "ribPlays", fn := fun _ => fun
  | [d] => { results := [.lit (.bool true)], args := [d] }
  | _ => none }
def ribPlaysRow : OpenClaim := { program := "ytnklbeigikcfkaagreatdoor", sum := "8e87facd65972d818942a9af477dd9fa3a6a89aca5cd5b57d223dde0aa835b77", func := "crossway/crosswaylaw15.RibPlays", spec := "ribPlays", unfollowed := true, recurses := true, named := ["crossway/rib.distances"], plainKeys := false, apart := false, laid := [("crossway/rib.distances", laid_crossway_rib_distances)] }
def RibPlaysSaid : Prop := ribPlaysRow.holds Tryz.pinned (OpenSpec.ofChange ribPlaysSpec)

/-- ITS FALSE NEIGHBOUR: 'it returns false'. Refute it at one input. -/
def ribPlaysWrong : ChangeSpec := { name := "ribPlays", fn := fun _ => fun
  | [d] => { results := [.lit (.bool false)], args := [d] }
  | _ => none }
def RibPlaysWrongFalsely : Prop := ribPlaysRow.holds Tryz.pinned (OpenSpec.ofChange ribPlaysWrong)

/-- 'crosswaylaw15.RibCopies': WHATEVER THE INPUT: true; the input reads as it did. -/
def ribCopiesSpec : ChangeSpec := { name := "ribCopies", fn := fun _ => fun
  | [d1, d2, d3] => { results := [.lit (.bool true)], args := [d1, d2, d3] }
  | _ => none }
def ribCopiesRow : OpenClaim := { program := "ytnklbeigikcfkaagreatdoor", sum := "8e87facd65972d818942a9af477dd9fa3a6a89aca5cd5b57d223dde0aa835b77", func := "crossway/crosswaylaw15.RibCopies", spec := "ribCopies", unfollowed := true, recurses := true, named := ["crossway/rib.distances"], plainKeys := false, apart := false, laid := [("crossway/rib.distances", laid_crossway_rib_distances)] }
def RibCopiesSaid : Prop := ribCopiesRow.holds Tryz.pinned (OpenSpec.ofChange ribCopiesSpec)

/-- ITS FALSE NEIGHBOUR: 'it returns false'. Refute it at one input. -/
def ribCopiesWrong : ChangeSpec := { name := "ribCopies", fn := fun _ => fun
  | [d1, d2, d3] => { results := [.lit (.bool false)], args := [d1, d2, d3] }
  | _ => none }
def RibCopiesWrongFalsely : Prop := ribCopiesRow.holds Tryz.pinned (OpenSpec.ofChange ribCopiesWrong)

/- THE SECOND FORM. 'bulk': how many values and letters a reading holds, each counted each time it is reached (what is shared counts as often as it is met; a slice's spare places count too). A statement '..UptoSaid' is the law's where the arguments, and the package variables that the reading takes, are together of bulk at most 1048576: NARROWER than '..Said'. Prove '..Said' where nothing that the law and all that it calls make is longer than what came in: it says more and counts as full. Else prove '..UptoSaid'. A law counts once. -/
mutual
def uptoBulk {H : Type} : DataW H → Nat
  | .lit (.string bytes) => bytes.length + 1
  | .lit _ => 1
  | .nil => 1
  | .ptr d => uptoBulk d + 1
  | .slice elems spare => uptoBulkAll elems + uptoBulkAll spare + 1
  | .agg parts => uptoBulkAll parts + 1
  | .iface _ d => uptoBulk d + 1
  | .map entries => uptoBulkEntries entries + 1
  | .held _ => 1
def uptoBulkAll {H : Type} : List (DataW H) → Nat
  | [] => 0
  | d :: r => uptoBulk d + uptoBulkAll r
def uptoBulkEntries {H : Type} : List (Lit × DataW H) → Nat
  | [] => 0
  | x :: r => uptoBulkEntry x + uptoBulkEntries r
def uptoBulkEntry {H : Type} : Lit × DataW H → Nat
  | (.string bytes, d) => bytes.length + uptoBulk d + 1
  | (_, d) => uptoBulk d + 1
 end
def uptoSmall : (H : Type) → List (DataW H) → Bool := fun _ ds => decide (uptoBulkAll ds ≤ 1048576)
def OpenSpec.upto (s : _root_.Go.ChangeSpec) : _root_.Go.OpenSpec := { _root_.Go.OpenSpec.ofChange s with cond := some uptoSmall }

/-- 'crosswaylaw15.RibPlays', WHERE WHAT IT READS IS OF BULK AT MOST 1048576: true; the input reads as it did. -/
def ribPlaysUptoRow : OpenClaim := { program := "ytnklbeigikcfkaagreatdoor", sum := "8e87facd65972d818942a9af477dd9fa3a6a89aca5cd5b57d223dde0aa835b77", func := "crossway/crosswaylaw15.RibPlays", spec := "ribPlays", unfollowed := true, recurses := true, named := ["crossway/rib.distances"], plainKeys := false, apart := false, laid := [("crossway/rib.distances", laid_crossway_rib_distances)], narrowed := true }
def RibPlaysUptoSaid : Prop := ribPlaysUptoRow.holds Tryz.pinned (OpenSpec.upto ribPlaysSpec)

/-- 'crosswaylaw15.RibCopies', WHERE WHAT IT READS IS OF BULK AT MOST 1048576: true; the input reads as it did. -/
def ribCopiesUptoRow : OpenClaim := { program := "ytnklbeigikcfkaagreatdoor", sum := "8e87facd65972d818942a9af477dd9fa3a6a89aca5cd5b57d223dde0aa835b77", func := "crossway/crosswaylaw15.RibCopies", spec := "ribCopies", unfollowed := true, recurses := true, named := ["crossway/rib.distances"], plainKeys := false, apart := false, laid := [("crossway/rib.distances", laid_crossway_rib_distances)], narrowed := true }
def RibCopiesUptoSaid : Prop := ribCopiesUptoRow.holds Tryz.pinned (OpenSpec.upto ribCopiesSpec)

end Rows
end Go.Proofs.YtnklbeigikcfkaaGreatDoor
