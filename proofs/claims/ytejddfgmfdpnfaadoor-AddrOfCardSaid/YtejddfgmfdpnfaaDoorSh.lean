/- What the program calls of the standard library, off the shelf. -/
import Derived.Test.YtejddfgmfdpnfaaDoorBase
import Derived.Test.YtejddfgmfdpnfaaDoorProg
import Derived.Shelf.Lay
import Derived.Ground.NamesProg
import Derived.Shelf.Strings.Cut
import Derived.Shelf.Strings.Split
import Derived.Shelf.Strings.OnBuilder
import Derived.Shelf.Strconv.Itoa3
namespace Go.Proofs.YtejddfgmfdpnfaaDoor
open Go.Proofs Go.Shelf Go.RowKit Go.Lib
shelf_lay Lays.n145 Nm 145 at Tryd as Tryd.cutL
shelf_lay Lays.n146 Nm 146 at Tryd as Tryd.splitL
shelf_lay Lays.n156 Nm 156 at Tryd as Tryd.joinL
shelf_lay Lays.n283 Nm 283 at Tryd as Tryd.smallL
end Go.Proofs.YtejddfgmfdpnfaaDoor
