/- addr.Of of four bytes; Class and Solicited at one address. -/
import Derived.Test.YtcameghlkplgfaaGreatDoorFg
import Derived.Test.YtcameghlkplgfaaGreatDoorLe
import Derived.Test.YtcameghlkplgfaaGreatDoorBy
namespace Go.Proofs.YtcameghlkplgfaaGreatDoor
open Go.Proofs Go.Shelf Go.RowKit
section
variable {w : World}
end
end Go.Proofs.YtcameghlkplgfaaGreatDoor
