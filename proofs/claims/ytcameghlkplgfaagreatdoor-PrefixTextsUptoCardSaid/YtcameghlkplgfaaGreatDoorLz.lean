/- bits.LeadingZeros8, off the shelf. -/
import Derived.Test.YtcameghlkplgfaaGreatDoorBy
import Derived.Ground.NamesProg
import Derived.Shelf.Lay
import Derived.Shelf.Small.Bits
namespace Go.Proofs.YtcameghlkplgfaaGreatDoor
open Go.Proofs Go.Shelf Go.RowKit Go.Lib
shelf_lay Lays.n131 Nm 131 at Tryz as Tryz.lz8
theorem lz8 (x : Nat) (h : x < 256) (w : World) : Calls Tryz.prog 31 #[.int .u8 (x : Int)] w fun e w' => e = .returned (.int .i64 (8 - (Lib.bitLen x : Int))) ∧ w' = w :=
  Any.bits_LeadingZeros8 Tryz.lz8 (x : Int) w (by omega) (by omega)
end Go.Proofs.YtcameghlkplgfaaGreatDoor
