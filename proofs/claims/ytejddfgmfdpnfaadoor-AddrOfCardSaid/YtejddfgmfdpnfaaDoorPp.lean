/- prefix.Parse, where the text has a slash and the address is one. -/
import Derived.Test.YtejddfgmfdpnfaaDoorPa
namespace Go.Proofs.YtejddfgmfdpnfaaDoor
open Go.Proofs Go.Shelf Go.RowKit
/-- The library's own variable stands. -/
def Mx (m : Int) (W : World) : Prop := W.cell? ⟨1, 0, none⟩ = some (.int .i64 m)
theorem Mx.fr {m : Int} {w W : World} (h : Mx m w) (hF : Fr N0 w W) : Mx m W := (hF.cell (p := ⟨1, 0, none⟩) (World.block_lt_of_cell? _ _ h) id).trans h
/-- What a text is read as, when its address and its bits are read. -/
def parsP (a : Ad) (k : Int) : Px × Int := if validP ⟨a, k⟩ = true then (⟨a, k⟩, 0) else (⟨⟨false, 0, 0⟩, 0⟩, 30)
section
variable {w : World}
end
end Go.Proofs.YtejddfgmfdpnfaaDoor
