/- The document's Of of bytes. -/
import Derived.Test.YtcameghlkplgfaaGreatDoorO5
namespace Go.Proofs.YtcameghlkplgfaaGreatDoor
open Go.Proofs Go.Shelf Go.RowKit
section
variable {w : World}
end
end Go.Proofs.YtcameghlkplgfaaGreatDoor
