/-
  No cell of these rows narrows 'for every input' (looked for: loops, veiled, ifaces, maps, wideKeys, modest, calm, conditions, laid).
  DERIVED. THE GIVEN ROWS OF THIS SEAT. 4 by the template 'for every input the law returns true; each argument reads behind the call as it read before'; 0 by the template 'total and deterministic' (their statements: YtpmhncblhdddhaaTotals.lean).
  GIVEN WITH THE SEED: the statements are not yours to turn. If you find one false, say at which input.
  Laid BY PROGRAM, IN A SANDBOX (cutbox-rows.mjs): the forced cells as the released guide's own fill.sh prints them over the translation 9effd87e2c5547c3… (all of the seat's roots in one cut). By AI agents, Wed Nov 11 2026. No macro, syntax, notation, axiom, sorry.
-/
import Derived.Test.YtpmhncblhdddhaaChecked
import GoSem.Claim
import GoSem.ClaimJoined
import GoSem.ClaimMapViews
import Derived.JoinedTies
import Derived.KernelRfl
namespace Go.Proofs.Ytpmhncblhdddhaa
/- THE CELL 'sum', in the pinned program and in every row, IS THE sha256 OF THE DUMP (.gsa) THAT YtpmhncblhdddhaaProg.lean LOADS. Nothing in Lean hashes anything: it is a label: what it is worth is what the hold of that sum in a sandbox is worth. -/
noncomputable def Try.pinned : Pinned := { name := "ytpmhncblhdddhaa", sum := "9effd87e2c5547c3fe2a83d15b84fcbb998b09e2dd83045754111c64a9af2b04", checked := Try.checked }
namespace Rows
def none {H : Type} : Left H := { results := [], args := [] }

/-- 'crosswaylaw18.MeterShares': WHATEVER THE INPUT: true; the input reads as it did. -/
def meterSharesSpec : ChangeSpec := { name := "meterShares", fn := fun _ => fun
  | [d1, d2, d3, d4] => { results := [.lit (.bool true)], args := [d1, d2, d3, d4] }
  | _ => none }
def meterSharesRow : OpenClaim := { program := "ytpmhncblhdddhaa", sum := "9effd87e2c5547c3fe2a83d15b84fcbb998b09e2dd83045754111c64a9af2b04", func := "crossway/crosswaylaw18.MeterShares", spec := "meterShares", unfollowed := true, recurses := true, apart := false }
def MeterSharesSaid : Prop := meterSharesRow.holds Try.pinned (OpenSpec.ofChange meterSharesSpec)

/-- ITS FALSE NEIGHBOUR: 'it returns false'. Refute it at one input. -/
def meterSharesWrong : ChangeSpec := { name := "meterShares", fn := fun _ => fun
  | [d1, d2, d3, d4] => { results := [.lit (.bool false)], args := [d1, d2, d3, d4] }
  | _ => none }
def MeterSharesWrongFalsely : Prop := meterSharesRow.holds Try.pinned (OpenSpec.ofChange meterSharesWrong)

/-- 'crosswaylaw18.MeterTokens': WHATEVER THE INPUT: true; the input reads as it did. -/
def meterTokensSpec : ChangeSpec := { name := "meterTokens", fn := fun _ => fun
  | [d1, d2, d3] => { results := [.lit (.bool true)], args := [d1, d2, d3] }
  | _ => none }
def meterTokensRow : OpenClaim := { program := "ytpmhncblhdddhaa", sum := "9effd87e2c5547c3fe2a83d15b84fcbb998b09e2dd83045754111c64a9af2b04", func := "crossway/crosswaylaw18.MeterTokens", spec := "meterTokens", apart := false }
def MeterTokensSaid : Prop := meterTokensRow.holds Try.pinned (OpenSpec.ofChange meterTokensSpec)

/-- ITS FALSE NEIGHBOUR: 'it returns false'. Refute it at one input. -/
def meterTokensWrong : ChangeSpec := { name := "meterTokens", fn := fun _ => fun
  | [d1, d2, d3] => { results := [.lit (.bool false)], args := [d1, d2, d3] }
  | _ => none }
def MeterTokensWrongFalsely : Prop := meterTokensRow.holds Try.pinned (OpenSpec.ofChange meterTokensWrong)

/-- 'crosswaylaw18.MeterBound': WHATEVER THE INPUT: true; the input reads as it did. -/
def meterBoundSpec : ChangeSpec := { name := "meterBound", fn := fun _ => fun
  | [d1, d2, d3, d4] => { results := [.lit (.bool true)], args := [d1, d2, d3, d4] }
  | _ => none }
def meterBoundRow : OpenClaim := { program := "ytpmhncblhdddhaa", sum := "9effd87e2c5547c3fe2a83d15b84fcbb998b09e2dd83045754111c64a9af2b04", func := "crossway/crosswaylaw18.MeterBound", spec := "meterBound", apart := false }
def MeterBoundSaid : Prop := meterBoundRow.holds Try.pinned (OpenSpec.ofChange meterBoundSpec)

/-- ITS FALSE NEIGHBOUR: 'it returns false'. Refute it at one input. -/
def meterBoundWrong : ChangeSpec := { name := "meterBound", fn := fun _ => fun
  | [d1, d2, d3, d4] => { results := [.lit (.bool false)], args := [d1, d2, d3, d4] }
  | _ => none }
def MeterBoundWrongFalsely : Prop := meterBoundRow.holds Try.pinned (OpenSpec.ofChange meterBoundWrong)

/-- 'crosswaylaw18.MeterFair': WHATEVER THE INPUT: true; the input reads as it did. -/
def meterFairSpec : ChangeSpec := { name := "meterFair", fn := fun _ => fun
  | [d1, d2, d3, d4] => { results := [.lit (.bool true)], args := [d1, d2, d3, d4] }
  | _ => none }
def meterFairRow : OpenClaim := { program := "ytpmhncblhdddhaa", sum := "9effd87e2c5547c3fe2a83d15b84fcbb998b09e2dd83045754111c64a9af2b04", func := "crossway/crosswaylaw18.MeterFair", spec := "meterFair", apart := false }
def MeterFairSaid : Prop := meterFairRow.holds Try.pinned (OpenSpec.ofChange meterFairSpec)

/-- ITS FALSE NEIGHBOUR: 'it returns false'. Refute it at one input. -/
def meterFairWrong : ChangeSpec := { name := "meterFair", fn := fun _ => fun
  | [d1, d2, d3, d4] => { results := [.lit (.bool false)], args := [d1, d2, d3, d4] }
  | _ => none }
def MeterFairWrongFalsely : Prop := meterFairRow.holds Try.pinned (OpenSpec.ofChange meterFairWrong)

/- THE SECOND FORM. 'bulk': how many values and letters a reading holds, each counted each time it is reached (what is shared counts as often as it is met; a slice's spare places count too). A statement '..UptoSaid' is the law's where the arguments, and the package variables that the reading takes, are together of bulk at most 1048576: NARROWER than '..Said'. Prove '..Said' where nothing that the law and all that it calls make is longer than what came in: it says more and counts as full. Else prove '..UptoSaid'. A law counts once. -/
mutual
def uptoBulk {H : Type} : DataW H → Nat
  | .lit (.string bytes) => bytes.length + 1
  | .lit _ => 1
  | .nil => 1
  | .ptr d => uptoBulk d + 1
  | .slice elems spare => uptoBulkAll elems + uptoBulkAll spare + 1
  | .agg parts => uptoBulkAll parts + 1
  | .iface _ d => uptoBulk d + 1
  | .map entries => uptoBulkEntries entries + 1
  | .held _ => 1
def uptoBulkAll {H : Type} : List (DataW H) → Nat
  | [] => 0
  | d :: r => uptoBulk d + uptoBulkAll r
def uptoBulkEntries {H : Type} : List (Lit × DataW H) → Nat
  | [] => 0
  | x :: r => uptoBulkEntry x + uptoBulkEntries r
def uptoBulkEntry {H : Type} : Lit × DataW H → Nat
  | (.string bytes, d) => bytes.length + uptoBulk d + 1
  | (_, d) => uptoBulk d + 1
 end
def uptoSmall : (H : Type) → List (DataW H) → Bool := fun _ ds => decide (uptoBulkAll ds ≤ 1048576)
def OpenSpec.upto (s : _root_.Go.ChangeSpec) : _root_.Go.OpenSpec := { _root_.Go.OpenSpec.ofChange s with cond := some uptoSmall }

/-- 'crosswaylaw18.MeterShares', WHERE WHAT IT READS IS OF BULK AT MOST 1048576: true; the input reads as it did. -/
def meterSharesUptoRow : OpenClaim := { program := "ytpmhncblhdddhaa", sum := "9effd87e2c5547c3fe2a83d15b84fcbb998b09e2dd83045754111c64a9af2b04", func := "crossway/crosswaylaw18.MeterShares", spec := "meterShares", unfollowed := true, recurses := true, apart := false, narrowed := true }
def MeterSharesUptoSaid : Prop := meterSharesUptoRow.holds Try.pinned (OpenSpec.upto meterSharesSpec)

/-- 'crosswaylaw18.MeterTokens', WHERE WHAT IT READS IS OF BULK AT MOST 1048576: true; the input reads as it did. -/
def meterTokensUptoRow : OpenClaim := { program := "ytpmhncblhdddhaa", sum := "9effd87e2c5547c3fe2a83d15b84fcbb998b09e2dd83045754111c64a9af2b04", func := "crossway/crosswaylaw18.MeterTokens", spec := "meterTokens", apart := false, narrowed := true }
def MeterTokensUptoSaid : Prop := meterTokensUptoRow.holds Try.pinned (OpenSpec.upto meterTokensSpec)

/-- 'crosswaylaw18.MeterBound', WHERE WHAT IT READS IS OF BULK AT MOST 1048576: true; the input reads as it did. -/
def meterBoundUptoRow : OpenClaim := { program := "ytpmhncblhdddhaa", sum := "9effd87e2c5547c3fe2a83d15b84fcbb998b09e2dd83045754111c64a9af2b04", func := "crossway/crosswaylaw18.MeterBound", spec := "meterBound", apart := false, narrowed := true }
def MeterBoundUptoSaid : Prop := meterBoundUptoRow.holds Try.pinned (OpenSpec.upto meterBoundSpec)

/-- 'crosswaylaw18.MeterFair', WHERE WHAT IT READS IS OF BULK AT MOST 1048576: true; the input reads as it did. -/
def meterFairUptoRow : OpenClaim := { program := "ytpmhncblhdddhaa", sum := "9effd87e2c5547c3fe2a83d15b84fcbb998b09e2dd83045754111c64a9af2b04", func := "crossway/crosswaylaw18.MeterFair", spec := "meterFair", apart := false, narrowed := true }
def MeterFairUptoSaid : Prop := meterFairUptoRow.holds Try.pinned (OpenSpec.upto meterFairSpec)

end Rows
end Go.Proofs.Ytpmhncblhdddhaa
