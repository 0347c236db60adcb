/-
  No cell of these rows narrows 'for every input' (looked for: loops, veiled, ifaces, maps, wideKeys, modest, calm, conditions, laid).
  DERIVED. THE GIVEN ROWS OF THIS SEAT. 5 by the template 'for every input the law returns true; each argument reads behind the call as it read before'; 0 by the template 'total and deterministic' (their statements: YtncjhfofmeamdaaTotals.lean).
  GIVEN WITH THE SEED: the statements are not yours to turn. If you find one false, say at which input.
  Laid BY PROGRAM, IN A SANDBOX (cutbox-rows.mjs): the forced cells as the released guide's own fill.sh prints them over the translation a37a1b4daad3c468… (all of the seat's roots in one cut). By AI agents, Wed Nov 11 2026. No macro, syntax, notation, axiom, sorry.
-/
import Derived.Test.YtncjhfofmeamdaaChecked
import GoSem.Claim
import GoSem.ClaimJoined
import GoSem.ClaimMapViews
import Derived.JoinedTies
import Derived.KernelRfl
namespace Go.Proofs.Ytncjhfofmeamdaa
/- THE CELL 'sum', in the pinned program and in every row, IS THE sha256 OF THE DUMP (.gsa) THAT YtncjhfofmeamdaaProg.lean LOADS. Nothing in Lean hashes anything: it is a label: what it is worth is what the hold of that sum in a sandbox is worth. -/
noncomputable def Try.pinned : Pinned := { name := "ytncjhfofmeamdaa", sum := "a37a1b4daad3c468895284a26eda5ee901fe1982fcc33aac443375ec4254c13c", checked := Try.checked }
namespace Rows
def none {H : Type} : Left H := { results := [], args := [] }

/-- 'crosswaylaw10.ArenaPlays': WHATEVER THE INPUT: true; the input reads as it did. -/
def arenaPlaysSpec : ChangeSpec := { name := "arenaPlays", fn := fun _ => fun
  | [d1, d2] => { results := [.lit (.bool true)], args := [d1, d2] }
  | _ => none }
def arenaPlaysRow : OpenClaim := { program := "ytncjhfofmeamdaa", sum := "a37a1b4daad3c468895284a26eda5ee901fe1982fcc33aac443375ec4254c13c", func := "crossway/crosswaylaw10.ArenaPlays", spec := "arenaPlays", inPlace := ["slices.overlaps[int]"], recurses := true, apart := false }
def ArenaPlaysSaid : Prop := arenaPlaysRow.holds Try.pinned (OpenSpec.ofChange arenaPlaysSpec)

/-- ITS FALSE NEIGHBOUR: 'it returns false'. Refute it at one input. -/
def arenaPlaysWrong : ChangeSpec := { name := "arenaPlays", fn := fun _ => fun
  | [d1, d2] => { results := [.lit (.bool false)], args := [d1, d2] }
  | _ => none }
def ArenaPlaysWrongFalsely : Prop := arenaPlaysRow.holds Try.pinned (OpenSpec.ofChange arenaPlaysWrong)

/-- 'crosswaylaw10.ArenaApart': WHATEVER THE INPUT: true; the input reads as it did. -/
def arenaApartSpec : ChangeSpec := { name := "arenaApart", fn := fun _ => fun
  | [d1, d2] => { results := [.lit (.bool true)], args := [d1, d2] }
  | _ => none }
def arenaApartRow : OpenClaim := { program := "ytncjhfofmeamdaa", sum := "a37a1b4daad3c468895284a26eda5ee901fe1982fcc33aac443375ec4254c13c", func := "crossway/crosswaylaw10.ArenaApart", spec := "arenaApart", inPlace := ["slices.overlaps[int]"], recurses := true, apart := false }
def ArenaApartSaid : Prop := arenaApartRow.holds Try.pinned (OpenSpec.ofChange arenaApartSpec)

/-- ITS FALSE NEIGHBOUR: 'it returns false'. Refute it at one input. -/
def arenaApartWrong : ChangeSpec := { name := "arenaApart", fn := fun _ => fun
  | [d1, d2] => { results := [.lit (.bool false)], args := [d1, d2] }
  | _ => none }
def ArenaApartWrongFalsely : Prop := arenaApartRow.holds Try.pinned (OpenSpec.ofChange arenaApartWrong)

/-- 'crosswaylaw10.ArenaWhole': WHATEVER THE INPUT: true; the input reads as it did. -/
def arenaWholeSpec : ChangeSpec := { name := "arenaWhole", fn := fun _ => fun
  | [d1, d2, d3, d4] => { results := [.lit (.bool true)], args := [d1, d2, d3, d4] }
  | _ => none }
def arenaWholeRow : OpenClaim := { program := "ytncjhfofmeamdaa", sum := "a37a1b4daad3c468895284a26eda5ee901fe1982fcc33aac443375ec4254c13c", func := "crossway/crosswaylaw10.ArenaWhole", spec := "arenaWhole", inPlace := ["slices.overlaps[int]"], recurses := true, apart := false }
def ArenaWholeSaid : Prop := arenaWholeRow.holds Try.pinned (OpenSpec.ofChange arenaWholeSpec)

/-- ITS FALSE NEIGHBOUR: 'it returns false'. Refute it at one input. -/
def arenaWholeWrong : ChangeSpec := { name := "arenaWhole", fn := fun _ => fun
  | [d1, d2, d3, d4] => { results := [.lit (.bool false)], args := [d1, d2, d3, d4] }
  | _ => none }
def ArenaWholeWrongFalsely : Prop := arenaWholeRow.holds Try.pinned (OpenSpec.ofChange arenaWholeWrong)

/-- 'crosswaylaw10.ArenaHistory': WHATEVER THE INPUT: true; the input reads as it did. -/
def arenaHistorySpec : ChangeSpec := { name := "arenaHistory", fn := fun _ => fun
  | [d1, d2, d3] => { results := [.lit (.bool true)], args := [d1, d2, d3] }
  | _ => none }
def arenaHistoryRow : OpenClaim := { program := "ytncjhfofmeamdaa", sum := "a37a1b4daad3c468895284a26eda5ee901fe1982fcc33aac443375ec4254c13c", func := "crossway/crosswaylaw10.ArenaHistory", spec := "arenaHistory", inPlace := ["slices.overlaps[int]"], recurses := true, apart := false }
def ArenaHistorySaid : Prop := arenaHistoryRow.holds Try.pinned (OpenSpec.ofChange arenaHistorySpec)

/-- ITS FALSE NEIGHBOUR: 'it returns false'. Refute it at one input. -/
def arenaHistoryWrong : ChangeSpec := { name := "arenaHistory", fn := fun _ => fun
  | [d1, d2, d3] => { results := [.lit (.bool false)], args := [d1, d2, d3] }
  | _ => none }
def ArenaHistoryWrongFalsely : Prop := arenaHistoryRow.holds Try.pinned (OpenSpec.ofChange arenaHistoryWrong)

/-- 'crosswaylaw10.ArenaRefuses': WHATEVER THE INPUT: true; the input reads as it did. -/
def arenaRefusesSpec : ChangeSpec := { name := "arenaRefuses", fn := fun _ => fun
  | [d1, d2, d3] => { results := [.lit (.bool true)], args := [d1, d2, d3] }
  | _ => none }
def arenaRefusesRow : OpenClaim := { program := "ytncjhfofmeamdaa", sum := "a37a1b4daad3c468895284a26eda5ee901fe1982fcc33aac443375ec4254c13c", func := "crossway/crosswaylaw10.ArenaRefuses", spec := "arenaRefuses", inPlace := ["slices.overlaps[int]"], recurses := true, apart := false }
def ArenaRefusesSaid : Prop := arenaRefusesRow.holds Try.pinned (OpenSpec.ofChange arenaRefusesSpec)

/-- ITS FALSE NEIGHBOUR: 'it returns false'. Refute it at one input. -/
def arenaRefusesWrong : ChangeSpec := { name := "arenaRefuses", fn := fun _ => fun
  | [d1, d2, d3] => { results := [.lit (.bool false)], args := [d1, d2, d3] }
  | _ => none }
def ArenaRefusesWrongFalsely : Prop := arenaRefusesRow.holds Try.pinned (OpenSpec.ofChange arenaRefusesWrong)

/- THE SECOND FORM. 'bulk': how many values and letters a reading holds, each counted each time it is reached (what is shared counts as often as it is met; a slice's spare places count too). A statement '..UptoSaid' is the law's where the arguments, and the package variables that the reading takes, are together of bulk at most 1048576: NARROWER than '..Said'. Prove '..Said' where nothing that the law and all that it calls make is longer than what came in: it says more and counts as full. Else prove '..UptoSaid'. A law counts once. -/
mutual
def uptoBulk {H : Type} : DataW H → Nat
  | .lit (.string bytes) => bytes.length + 1
  | .lit _ => 1
  | .nil => 1
  | .ptr d => uptoBulk d + 1
  | .slice elems spare => uptoBulkAll elems + uptoBulkAll spare + 1
  | .agg parts => uptoBulkAll parts + 1
  | .iface _ d => uptoBulk d + 1
  | .map entries => uptoBulkEntries entries + 1
  | .held _ => 1
def uptoBulkAll {H : Type} : List (DataW H) → Nat
  | [] => 0
  | d :: r => uptoBulk d + uptoBulkAll r
def uptoBulkEntries {H : Type} : List (Lit × DataW H) → Nat
  | [] => 0
  | x :: r => uptoBulkEntry x + uptoBulkEntries r
def uptoBulkEntry {H : Type} : Lit × DataW H → Nat
  | (.string bytes, d) => bytes.length + uptoBulk d + 1
  | (_, d) => uptoBulk d + 1
 end
def uptoSmall : (H : Type) → List (DataW H) → Bool := fun _ ds => decide (uptoBulkAll ds ≤ 1048576)
def OpenSpec.upto (s : _root_.Go.ChangeSpec) : _root_.Go.OpenSpec := { _root_.Go.OpenSpec.ofChange s with cond := some uptoSmall }

/-- 'crosswaylaw10.ArenaPlays', WHERE WHAT IT READS IS OF BULK AT MOST 1048576: true; the input reads as it did. -/
def arenaPlaysUptoRow : OpenClaim := { program := "ytncjhfofmeamdaa", sum := "a37a1b4daad3c468895284a26eda5ee901fe1982fcc33aac443375ec4254c13c", func := "crossway/crosswaylaw10.ArenaPlays", spec := "arenaPlays", inPlace := ["slices.overlaps[int]"], recurses := true, apart := false, narrowed := true }
def ArenaPlaysUptoSaid : Prop := arenaPlaysUptoRow.holds Try.pinned (OpenSpec.upto arenaPlaysSpec)

/-- 'crosswaylaw10.ArenaApart', WHERE WHAT IT READS IS OF BULK AT MOST 1048576: true; the input reads as it did. -/
def arenaApartUptoRow : OpenClaim := { program := "ytncjhfofmeamdaa", sum := "a37a1b4daad3c468895284a26eda5ee901fe1982fcc33aac443375ec4254c13c", func := "crossway/crosswaylaw10.ArenaApart", spec := "arenaApart", inPlace := ["slices.overlaps[int]"], recurses := true, apart := false, narrowed := true }
def ArenaApartUptoSaid : Prop := arenaApartUptoRow.holds Try.pinned (OpenSpec.upto arenaApartSpec)

/-- 'crosswaylaw10.ArenaWhole', WHERE WHAT IT READS IS OF BULK AT MOST 1048576: true; the input reads as it did. -/
def arenaWholeUptoRow : OpenClaim := { program := "ytncjhfofmeamdaa", sum := "a37a1b4daad3c468895284a26eda5ee901fe1982fcc33aac443375ec4254c13c", func := "crossway/crosswaylaw10.ArenaWhole", spec := "arenaWhole", inPlace := ["slices.overlaps[int]"], recurses := true, apart := false, narrowed := true }
def ArenaWholeUptoSaid : Prop := arenaWholeUptoRow.holds Try.pinned (OpenSpec.upto arenaWholeSpec)

/-- 'crosswaylaw10.ArenaHistory', WHERE WHAT IT READS IS OF BULK AT MOST 1048576: true; the input reads as it did. -/
def arenaHistoryUptoRow : OpenClaim := { program := "ytncjhfofmeamdaa", sum := "a37a1b4daad3c468895284a26eda5ee901fe1982fcc33aac443375ec4254c13c", func := "crossway/crosswaylaw10.ArenaHistory", spec := "arenaHistory", inPlace := ["slices.overlaps[int]"], recurses := true, apart := false, narrowed := true }
def ArenaHistoryUptoSaid : Prop := arenaHistoryUptoRow.holds Try.pinned (OpenSpec.upto arenaHistorySpec)

/-- 'crosswaylaw10.ArenaRefuses', WHERE WHAT IT READS IS OF BULK AT MOST 1048576: true; the input reads as it did. -/
def arenaRefusesUptoRow : OpenClaim := { program := "ytncjhfofmeamdaa", sum := "a37a1b4daad3c468895284a26eda5ee901fe1982fcc33aac443375ec4254c13c", func := "crossway/crosswaylaw10.ArenaRefuses", spec := "arenaRefuses", inPlace := ["slices.overlaps[int]"], recurses := true, apart := false, narrowed := true }
def ArenaRefusesUptoSaid : Prop := arenaRefusesUptoRow.holds Try.pinned (OpenSpec.upto arenaRefusesSpec)

end Rows
end Go.Proofs.Ytncjhfofmeamdaa
