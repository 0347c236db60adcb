/- What the program calls of the standard library, off the shelf. -/
import Derived.Test.YtcameghlkplgfaaGreatDoorBase
import Derived.Test.YtcameghlkplgfaaGreatDoorProg
import Derived.Shelf.Lay
import Derived.Ground.NamesProg
import Derived.Shelf.Strings.Cut
import Derived.Shelf.Strings.Split
import Derived.Shelf.Strings.OnBuilder
import Derived.Shelf.Strconv.Itoa3
namespace Go.Proofs.YtcameghlkplgfaaGreatDoor
open Go.Proofs Go.Shelf Go.RowKit Go.Lib
shelf_lay Lays.n145 Nm 145 at Tryz as Tryz.cutL
shelf_lay Lays.n146 Nm 146 at Tryz as Tryz.splitL
shelf_lay Lays.n156 Nm 156 at Tryz as Tryz.joinL
shelf_lay Lays.n171 Nm 171 at Tryz as Tryz.itoaL
shelf_lay Lays.n283 Nm 283 at Tryz as Tryz.smallL
end Go.Proofs.YtcameghlkplgfaaGreatDoor
