/- What the chapter's examples are read and told as. -/
import Derived.Test.YtejddfgmfdpnfaaDoorPt
import Derived.Test.YtejddfgmfdpnfaaDoorP6
namespace Go.Proofs.YtejddfgmfdpnfaaDoor
open Go.Proofs Go.Shelf Go.RowKit
def xa : ByteArray := ⟨#[49, 48, 46, 48, 46, 48, 46, 49]⟩
def xb : ByteArray := ⟨#[48, 58, 48, 58, 48, 58, 48, 58, 48, 58, 48, 58, 48, 58, 49]⟩
def xc : ByteArray := ⟨#[49, 58, 50, 58, 51, 58, 52, 58, 53, 58, 54, 58, 55, 58, 56, 58, 58]⟩
theorem ev_p1 : txt6 (gsA ⟨true, 0, 1⟩) = ⟨#[58, 58, 49]⟩ := by decide +kernel
theorem ev_p2 : txt6 (gsA ⟨true, 65536, 65536⟩) = ⟨#[48, 58, 48, 58, 49, 58, 58, 49, 58, 48]⟩ := by decide +kernel
theorem ev_a : parseA xa = (⟨false, 0, 167772161⟩, 0) := by decide +kernel
theorem ev_b : parseA xb = (⟨true, 0, 1⟩, 0) := by decide +kernel
theorem ev_c : parseA xc = (⟨false, 0, 0⟩, 20) := by decide +kernel
end Go.Proofs.YtejddfgmfdpnfaaDoor
