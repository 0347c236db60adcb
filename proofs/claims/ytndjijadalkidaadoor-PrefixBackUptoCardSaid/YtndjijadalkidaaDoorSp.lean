/- strconv.ParseUint, off the shelf. -/
import Derived.Test.YtndjijadalkidaaDoorBase
import Derived.Test.YtndjijadalkidaaDoorProg
import Derived.Shelf.Lay
import Derived.Shelf.Pu.ParseUintPublic10
import Derived.Ground.MpProg
namespace Go.Proofs.YtndjijadalkidaaDoor
open Go.Proofs Go.Shelf Go.RowKit Go.Lib
shelf_lay LaysPu.n14 Mp 14 at Tryd as Tryd.puL
end Go.Proofs.YtndjijadalkidaaDoor
