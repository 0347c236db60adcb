/- addr.Of of any bytes. -/
import Derived.Test.YtcameghlkplgfaaGreatDoorO4
namespace Go.Proofs.YtcameghlkplgfaaGreatDoor
open Go.Proofs Go.Shelf Go.RowKit
/-- What bytes are as an address. -/
def ofB (bs : List Nat) : Ad × Int := if bs.length = 4 then (⟨false, 0, acc bs⟩, 0) else if bs.length = 16 then (⟨true, acc (bs.take 8), acc (bs.drop 8)⟩, 0) else (⟨false, 0, 0⟩, 20)
section
variable {w : World}
end
end Go.Proofs.YtcameghlkplgfaaGreatDoor
