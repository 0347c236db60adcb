/- addr.Class and addr.Solicited of any address. -/
import Derived.Test.YtcameghlkplgfaaGreatDoorO4
namespace Go.Proofs.YtcameghlkplgfaaGreatDoor
open Go.Proofs Go.Shelf Go.RowKit
def clsA (a : Ad) : Int :=
  if validA a = false then -1 else if a.six = true then (if a.hi = 0 ∧ a.lo = 0 then 0 else if a.hi = 0 ∧ a.lo = 1 then 1 else if a.hi / 18014398509481984 = 1018 then 2 else if a.hi / 72057594037927936 = 255 then 3 else 5)
  else if a.lo = 0 then 0 else if a.lo / 16777216 = 127 then 1 else if a.lo / 65536 = 43518 then 2 else if a.lo = 4294967295 then 4 else if a.lo / 268435456 = 14 then 3 else 5
def solA (a : Ad) : Ad := if a.six = true then ⟨true, 18375249429625044992, 8573157376 + a.lo % 16777216⟩ else ⟨false, 0, 0⟩
theorem sol_or (l : Nat) (h : l < 18446744073709551616) : bits .or .u64 8573157376 (bits .and .u64 (l : Int) 16777215) = ((8573157376 + l % 16777216 : Nat) : Int) := by
  have e : bits .and .u64 (l : Int) 16777215 = ((l % 16777216 : Nat) : Int) := by
    show IntKind.u64.wrap ((BitVec.ofInt 64 (l : Int) &&& BitVec.ofInt 64 16777215).toNat : Int) = _
    have h2 : (BitVec.ofInt 64 (16777215 : Int)).toNat = 2 ^ 24 - 1 := by decide
    rw [BitVec.toNat_and, h2, Nat.and_two_pow_sub_one_eq_mod, BitVec.ofInt_natCast, BitVec.toNat_ofNat, Nat.mod_eq_of_lt h, IntKind.wrap_u64]
    have : l % 2 ^ 24 < 16777216 := Nat.mod_lt _ (by omega)
    have e : l % 2 ^ 24 = l % 16777216 := rfl
    omega
  have hm : l % 16777216 < 16777216 := Nat.mod_lt _ (by omega)
  rw [e, show (8573157376 : Int) = ((8573157376 : Nat) : Int) from rfl, bits_or_u64_nat _ _ (by omega) (by omega)]
  congr 1
  have := Nat.two_pow_add_eq_or_of_lt (i := 24) (show l % 16777216 < 2 ^ 24 from hm) 511
  rw [show (2 : Nat) ^ 24 * 511 = 8573157376 by decide] at this
  exact this.symm
section
variable {w : World}
end
end Go.Proofs.YtcameghlkplgfaaGreatDoor
