/-
  NARROWER THAN 'FOR EVERY INPUT', by the rows' own cells (each row's printed sentence says how): RibBetter: laid · RibHistory: laid · RibRow: laid · RibFull: laid.
  DERIVED. THE GIVEN ROWS OF THIS SEAT. 4 by the template 'for every input the law returns true; each argument reads behind the call as it read before'; 0 by the template 'total and deterministic' (their statements: YtnklbeigikcfkaaDoorTotals.lean).
  GIVEN WITH THE SEED: the statements are not yours to turn. If you find one false, say at which input.
  Laid BY PROGRAM, IN A SANDBOX (cutbox-rows.mjs): the forced cells as the released guide's own fill.sh prints them over the translation c2480a57e9aacc3a… (all of the seat's roots in one cut). By AI agents, Wed Nov 11 2026. No macro, syntax, notation, axiom, sorry.
-/
import Derived.Test.YtnklbeigikcfkaaDoorChecked
import GoSem.Claim
import GoSem.ClaimJoined
import GoSem.ClaimMapViews
import Derived.JoinedTies
import Derived.KernelRfl
namespace Go.Proofs.YtnklbeigikcfkaaDoor
/- THE CELL 'sum', in the pinned program and in every row, IS THE sha256 OF THE DUMP (.gsa) THAT YtnklbeigikcfkaaDoorProg.lean LOADS. Nothing in Lean hashes anything: it is a label: what it is worth is what the hold of that sum in a sandbox is worth. -/
noncomputable def Tryd.pinned : Pinned := { name := "ytnklbeigikcfkaadoor", sum := "c2480a57e9aacc3afac3b66235660e82064449988cc86310947fb94e0a9145c2", checked := Tryd.checked }
namespace Rows
def none {H : Type} : Left H := { results := [], args := [] }

/- WHAT THE LISTED PACKAGE-LEVEL VARIABLES READ AS WHEN THE CALL BEGINS. Each datum BY PROGRAM (the guide's laid-datum.mjs) off the statement by which the dump's own 'gosem.cut.vars' lays the variable. In a bare row this is a premise. The card (YtnklbeigikcfkaaDoorCards.lean) ties it to the program's text. -/
def laid_crossway_rib_distances {H : Type} : DataW H := .agg [.lit (.int .i64 0), .lit (.int .i64 1), .lit (.int .i64 20), .lit (.int .i64 110), .lit (.int .i64 120)]

/-- 'crosswaylaw15.RibBetter': WHATEVER THE INPUT: true; the input reads as it did. -/
def ribBetterSpec : ChangeSpec := { name := "ribBetter", fn := fun _ => fun
  | [d1, d2, d3] => { results := [.lit (.bool true)], args := [d1, d2, d3] }
  | _ => none }
def ribBetterRow : OpenClaim := { program := "ytnklbeigikcfkaadoor", sum := "c2480a57e9aacc3afac3b66235660e82064449988cc86310947fb94e0a9145c2", func := "crossway/crosswaylaw15.RibBetter", spec := "ribBetter", unfollowed := true, recurses := true, named := ["crossway/rib.distances"], plainKeys := false, apart := false, laid := [("crossway/rib.distances", laid_crossway_rib_distances)] }
def RibBetterSaid : Prop := ribBetterRow.holds Tryd.pinned (OpenSpec.ofChange ribBetterSpec)

/-- ITS FALSE NEIGHBOUR: 'it returns false'. Refute it at one input. -/
def ribBetterWrong : ChangeSpec := { name := "ribBetter", fn := fun _ => fun
  | [d1, d2, d3] => { results := [.lit (.bool false)], args := [d1, d2, d3] }
  | _ => none }
def RibBetterWrongFalsely : Prop := ribBetterRow.holds Tryd.pinned (OpenSpec.ofChange ribBetterWrong)

/-- 'crosswaylaw15.RibHistory': WHATEVER THE INPUT: true; the input reads as it did. -/
def ribHistorySpec : ChangeSpec := { name := "ribHistory", fn := fun _ => fun
  | [d1, d2] => { results := [.lit (.bool true)], args := [d1, d2] }
  | _ => none }
def ribHistoryRow : OpenClaim := { program := "ytnklbeigikcfkaadoor", sum := "c2480a57e9aacc3afac3b66235660e82064449988cc86310947fb94e0a9145c2", func := "crossway/crosswaylaw15.RibHistory", spec := "ribHistory", unfollowed := true, recurses := true, named := ["crossway/rib.distances"], plainKeys := false, apart := false, laid := [("crossway/rib.distances", laid_crossway_rib_distances)] }
def RibHistorySaid : Prop := ribHistoryRow.holds Tryd.pinned (OpenSpec.ofChange ribHistorySpec)

/-- ITS FALSE NEIGHBOUR: 'it returns false'. Refute it at one input. -/
def ribHistoryWrong : ChangeSpec := { name := "ribHistory", fn := fun _ => fun
  | [d1, d2] => { results := [.lit (.bool false)], args := [d1, d2] }
  | _ => none }
def RibHistoryWrongFalsely : Prop := ribHistoryRow.holds Tryd.pinned (OpenSpec.ofChange ribHistoryWrong)

/-- 'crosswaylaw15.RibRow': WHATEVER THE INPUT: true; the input reads as it did. -/
def ribRowSpec : ChangeSpec := { name := "ribRow", fn := fun _ => fun
  | [d] => { results := [.lit (.bool true)], args := [d] }
  | _ => none }
def ribRowRow : OpenClaim := { program := "ytnklbeigikcfkaadoor", sum := "c2480a57e9aacc3afac3b66235660e82064449988cc86310947fb94e0a9145c2", func := "crossway/crosswaylaw15.RibRow", spec := "ribRow", unfollowed := true, recurses := true, named := ["crossway/rib.distances"], plainKeys := false, apart := false, laid := [("crossway/rib.distances", laid_crossway_rib_distances)] }
def RibRowSaid : Prop := ribRowRow.holds Tryd.pinned (OpenSpec.ofChange ribRowSpec)

/-- ITS FALSE NEIGHBOUR: 'it returns false'. Refute it at one input. -/
def ribRowWrong : ChangeSpec := { name := "ribRow", fn := fun _ => fun
  | [d] => { results := [.lit (.bool false)], args := [d] }
  | _ => none }
def RibRowWrongFalsely : Prop := ribRowRow.holds Tryd.pinned (OpenSpec.ofChange ribRowWrong)

/-- 'crosswaylaw15.RibFull': WHATEVER THE INPUT: true; the input reads as it did. -/
def ribFullSpec : ChangeSpec := { name := "ribFull", fn := fun _ => fun
  | [d1, d2, d3] => { results := [.lit (.bool true)], args := [d1, d2, d3] }
  | _ => none }
def ribFullRow : OpenClaim := { program := "ytnklbeigikcfkaadoor", sum := "c2480a57e9aacc3afac3b66235660e82064449988cc86310947fb94e0a9145c2", func := "crossway/crosswaylaw15.RibFull", spec := "ribFull", unfollowed := true, recurses := true, named := ["crossway/rib.distances"], plainKeys := false, apart := false, laid := [("crossway/rib.distances", laid_crossway_rib_distances)] }
def RibFullSaid : Prop := ribFullRow.holds Tryd.pinned (OpenSpec.ofChange ribFullSpec)

/-- ITS FALSE NEIGHBOUR: 'it returns false'. Refute it at one input. -/
def ribFullWrong : ChangeSpec := { name := "ribFull", fn := fun _ => fun
  | [d1, d2, d3] => { results := [.lit (.bool false)], args := [d1, d2, d3] }
  | _ => none }
def RibFullWrongFalsely : Prop := ribFullRow.holds Tryd.pinned (OpenSpec.ofChange ribFullWrong)

/- THE SECOND FORM. 'bulk': how many values and letters a reading holds, each counted each time it is reached (what is shared counts as often as it is met; a slice's spare places count too). A statement '..UptoSaid' is the law's where the arguments, and the package variables that the reading takes, are together of bulk at most 1048576: NARROWER than '..Said'. Prove '..Said' where nothing that the law and all that it calls make is longer than what came in: it says more and counts as full. Else prove '..UptoSaid'. A law counts once. -/
mutual
def uptoBulk {H : Type} : DataW H → Nat
  | .lit (.string bytes) => bytes.length + 1
  | .lit _ => 1
  | .nil => 1
  | .ptr d => uptoBulk d + 1
  | .slice elems spare => uptoBulkAll elems + uptoBulkAll spare + 1
  | .agg parts => uptoBulkAll parts + 1
  | .iface _ d => uptoBulk d + 1
  | .map entries => uptoBulkEntries entries + 1
  | .held _ => 1
def uptoBulkAll {H : Type} : List (DataW H) → Nat
  | [] => 0
  | d :: r => uptoBulk d + uptoBulkAll r
def uptoBulkEntries {H : Type} : List (Lit × DataW H) → Nat
  | [] => 0
  | x :: r => uptoBulkEntry x + uptoBulkEntries r
def uptoBulkEntry {H : Type} : Lit × DataW H → Nat
  | (.string bytes, d) => bytes.length + uptoBulk d + 1
  | (_, d) => uptoBulk d + 1
 end
def uptoSmall : (H : Type) → List (DataW H) → Bool := fun _ ds => decide (uptoBulkAll ds ≤ 1048576)
def OpenSpec.upto (s : _root_.Go.ChangeSpec) : _root_.Go.OpenSpec := { _root_.Go.OpenSpec.ofChange s with cond := some uptoSmall }

/-- 'crosswaylaw15.RibBetter', WHERE WHAT IT READS IS OF BULK AT MOST 1048576: true; the input reads as it did. -/
def ribBetterUptoRow : OpenClaim := { program := "ytnklbeigikcfkaadoor", sum := "c2480a57e9aacc3afac3b66235660e82064449988cc86310947fb94e0a9145c2", func := "crossway/crosswaylaw15.RibBetter", spec := "ribBetter", unfollowed := true, recurses := true, named := ["crossway/rib.distances"], plainKeys := false, apart := false, laid := [("crossway/rib.distances", laid_crossway_rib_distances)], narrowed := true }
def RibBetterUptoSaid : Prop := ribBetterUptoRow.holds Tryd.pinned (OpenSpec.upto ribBetterSpec)

/-- 'crosswaylaw15.RibHistory', WHERE WHAT IT READS IS OF BULK AT MOST 1048576: true; the input reads as it did. -/
def ribHistoryUptoRow : OpenClaim := { program := "ytnklbeigikcfkaadoor", sum := "c2480a57e9aacc3afac3b66235660e82064449988cc86310947fb94e0a9145c2", func := "crossway/crosswaylaw15.RibHistory", spec := "ribHistory", unfollowed := true, recurses := true, named := ["crossway/rib.distances"], plainKeys := false, apart := false, laid := [("crossway/rib.distances", laid_crossway_rib_distances)], narrowed := true }
def RibHistoryUptoSaid : Prop := ribHistoryUptoRow.holds Tryd.pinned (OpenSpec.upto ribHistorySpec)

/-- 'crosswaylaw15.RibRow', WHERE WHAT IT READS IS OF BULK AT MOST 1048576: true; the input reads as it did. -/
def ribRowUptoRow : OpenClaim := { program := "ytnklbeigikcfkaadoor", sum := "c2480a57e9aacc3afac3b66235660e82064449988cc86310947fb94e0a9145c2", func := "crossway/crosswaylaw15.RibRow", spec := "ribRow", unfollowed := true, recurses := true, named := ["crossway/rib.distances"], plainKeys := false, apart := false, laid := [("crossway/rib.distances", laid_crossway_rib_distances)], narrowed := true }
def RibRowUptoSaid : Prop := ribRowUptoRow.holds Tryd.pinned (OpenSpec.upto ribRowSpec)

/-- 'crosswaylaw15.RibFull', WHERE WHAT IT READS IS OF BULK AT MOST 1048576: true; the input reads as it did. -/
def ribFullUptoRow : OpenClaim := { program := "ytnklbeigikcfkaadoor", sum := "c2480a57e9aacc3afac3b66235660e82064449988cc86310947fb94e0a9145c2", func := "crossway/crosswaylaw15.RibFull", spec := "ribFull", unfollowed := true, recurses := true, named := ["crossway/rib.distances"], plainKeys := false, apart := false, laid := [("crossway/rib.distances", laid_crossway_rib_distances)], narrowed := true }
def RibFullUptoSaid : Prop := ribFullUptoRow.holds Tryd.pinned (OpenSpec.upto ribFullSpec)

end Rows
end Go.Proofs.YtnklbeigikcfkaaDoor
