/- strconv.ParseUint, off the shelf. -/
import Derived.Test.YtcameghlkplgfaaGreatDoorBase
import Derived.Test.YtcameghlkplgfaaGreatDoorProg
import Derived.Shelf.Lay
import Derived.Shelf.Pu.ParseUintPublic10
import Derived.Ground.MpProg
namespace Go.Proofs.YtcameghlkplgfaaGreatDoor
open Go.Proofs Go.Shelf Go.RowKit Go.Lib
shelf_lay LaysPu.n14 Mp 14 at Tryz as Tryz.puL
end Go.Proofs.YtcameghlkplgfaaGreatDoor
