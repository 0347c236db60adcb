/- strconv.ParseUint, off the shelf. -/
import Derived.Test.YtejddfgmfdpnfaaDoorBase
import Derived.Test.YtejddfgmfdpnfaaDoorProg
import Derived.Shelf.Lay
import Derived.Shelf.Pu.ParseUintPublic10
import Derived.Ground.MpProg
namespace Go.Proofs.YtejddfgmfdpnfaaDoor
open Go.Proofs Go.Shelf Go.RowKit Go.Lib
shelf_lay LaysPu.n14 Mp 14 at Tryd as Tryd.puL
end Go.Proofs.YtejddfgmfdpnfaaDoor
