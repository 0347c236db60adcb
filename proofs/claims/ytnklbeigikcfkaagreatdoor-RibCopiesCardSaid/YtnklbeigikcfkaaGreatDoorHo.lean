/- prefix.Holds, prefix.Covers. -/
import Derived.Test.YtnklbeigikcfkaaGreatDoorOf
namespace Go.Proofs.YtnklbeigikcfkaaGreatDoor
open Go.RowKit
theorem ad_eql_lit {s1 s2 : Bool} {h1 h2 l1 l2 : Nat} (W : World) : Sem.run Tryz.prog (binOp .eql 30 (.agg #[.bool s1, .int .u64 (h1 : Int), .int .u64 (l1 : Int)]) (.agg #[.bool s2, .int .u64 (h2 : Int), .int .u64 (l2 : Int)])) W = .ok (.bool (decide ((⟨s1, h1, l1⟩ : Ad) = ⟨s2, h2, l2⟩))) W := eql_ad ⟨s1, h1, l1⟩ ⟨s2, h2, l2⟩ W
theorem ad_guard_lit {s1 s2 : Bool} {h1 h2 l1 l2 : Nat} (X Y : Operand) (W : World) : Sem.run Tryz.prog (eqGuard .eql 30 X Y (.agg #[.bool s1, .int .u64 (h1 : Int), .int .u64 (l1 : Int)]) (.agg #[.bool s2, .int .u64 (h2 : Int), .int .u64 (l2 : Int)])) W = .ok () W := guard_ad .eql X Y ⟨s1, h1, l1⟩ ⟨s2, h2, l2⟩ W
section
variable {w : World}
end
end Go.Proofs.YtnklbeigikcfkaaGreatDoor
