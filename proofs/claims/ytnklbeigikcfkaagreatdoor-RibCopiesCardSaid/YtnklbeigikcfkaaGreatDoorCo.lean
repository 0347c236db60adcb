/- prefix.Covers. -/
import Derived.Test.YtnklbeigikcfkaaGreatDoorHo
namespace Go.Proofs.YtnklbeigikcfkaaGreatDoor
open Go.RowKit
section
variable {w : World}
end
end Go.Proofs.YtnklbeigikcfkaaGreatDoor
