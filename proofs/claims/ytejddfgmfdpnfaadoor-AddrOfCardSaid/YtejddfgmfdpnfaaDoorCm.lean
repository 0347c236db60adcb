/- prefix.Common. -/
import Derived.Test.YtejddfgmfdpnfaaDoorBy
import Derived.Test.YtejddfgmfdpnfaaDoorPc
import Derived.Deep.RegionHeld3
import Derived.Laws.Bits64
import Derived.WalkMore
namespace Go.Proofs.YtejddfgmfdpnfaaDoor
open Go.RowKit
/-- How many first bits two addresses have in common; -1: they are not alike. -/
def CmR (a b : Ad) (r : Int) : Prop := if validA a = true ∧ validA b = true ∧ a.six = b.six then ∃ n : Nat, r = (n : Int) ∧ CmnIs a b n else r = -1
theorem CmR.eq {a b : Ad} {r q : Int} (h : CmR a b r) (k : CmR a b q) : r = q := by
  unfold CmR at h k
  split at h
  · rename_i hc
    rw [if_pos hc] at k
    obtain ⟨n, rfl, h1⟩ := h
    obtain ⟨m, rfl, k1⟩ := k
    rw [h1.eq k1]
  · rename_i hc
    rw [if_neg hc] at k
    rw [h, k]
theorem xor_u8 (a b : Nat) (ha : a < 256) (hb : b < 256) : bits .xor .u8 (a : Int) (b : Int) = ((a ^^^ b : Nat) : Int) := by
  have hx : a ^^^ b < 2 ^ 8 := Nat.xor_lt_two_pow (by omega) (by omega)
  have h1 : (BitVec.ofInt 8 (a : Int)).toNat = a := by
    rw [BitVec.ofInt_natCast, BitVec.toNat_ofNat]; exact Nat.mod_eq_of_lt (by omega)
  have h2 : (BitVec.ofInt 8 (b : Int)).toNat = b := by
    rw [BitVec.ofInt_natCast, BitVec.toNat_ofNat]; exact Nat.mod_eq_of_lt (by omega)
  show IntKind.u8.wrap ((BitVec.ofInt 8 (a : Int) ^^^ BitVec.ofInt 8 (b : Int)).toNat : Int) = _
  rw [BitVec.toNat_xor, h1, h2, IntKind.wrap_u8]
  omega
theorem Bx.fr' {w wr w' : World} {v : Value} {l : List Nat} (k : Bx w wr v l) (hF : Fr N0 wr w') : Bx w w' v l := by
  obtain ⟨A, c, h1, h2, h3, h4⟩ := k
  exact ⟨A, c, h1, h2.fr hF fun _ _ => id, h3, h4.trans hF⟩
section
variable {w : World}
end
end Go.Proofs.YtejddfgmfdpnfaaDoor
