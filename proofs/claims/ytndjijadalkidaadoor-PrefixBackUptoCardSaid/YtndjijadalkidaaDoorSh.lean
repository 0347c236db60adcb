/- What the program calls of the standard library, off the shelf. -/
import Derived.Test.YtndjijadalkidaaDoorBase
import Derived.Test.YtndjijadalkidaaDoorProg
import Derived.Shelf.Lay
import Derived.Ground.NamesProg
import Derived.Shelf.Strings.Cut
import Derived.Shelf.Strings.Split
import Derived.Shelf.Strings.OnBuilder
import Derived.Shelf.Strconv.Itoa3
namespace Go.Proofs.YtndjijadalkidaaDoor
open Go.Proofs Go.Shelf Go.RowKit Go.Lib
shelf_lay Lays.n145 Nm 145 at Tryd as Tryd.cutL
shelf_lay Lays.n146 Nm 146 at Tryd as Tryd.splitL
shelf_lay Lays.n156 Nm 156 at Tryd as Tryd.joinL
shelf_lay Lays.n171 Nm 171 at Tryd as Tryd.itoaL
shelf_lay Lays.n283 Nm 283 at Tryd as Tryd.smallL
end Go.Proofs.YtndjijadalkidaaDoor
