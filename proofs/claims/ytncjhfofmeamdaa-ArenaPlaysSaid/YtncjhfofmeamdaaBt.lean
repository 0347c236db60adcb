/- The bits of a twin and of a parent. -/
import Derived.Test.YtncjhfofmeamdaaGv
import Derived.Test.YtncjhfofmeamdaaBase
namespace Go.Proofs.Ytncjhfofmeamdaa
open Go.RowKit

theorem dy_eq {a k : Nat} (h : Dy a k) : a = a / 2 ^ k * 2 ^ k := (Nat.div_mul_cancel h).symm
theorem xor_one (q : Nat) : q ^^^ 1 = if q % 2 = 0 then q + 1 else q - 1 := by
  have h1 : (q ^^^ 1) / 2 = q / 2 := by rw [Nat.xor_div_two]; simp
  have h2 : (q ^^^ 1) % 2 = (q % 2) ^^^ (1 % 2) := Nat.xor_mod_two_pow (n := 1)
  rcases Nat.mod_two_eq_zero_or_one q with h3 | h3
  · have h4 : (q ^^^ 1) % 2 = 1 := by rw [h2, h3]; decide
    rw [if_pos h3]; omega
  · have h4 : (q ^^^ 1) % 2 = 0 := by rw [h2, h3]; decide
    rw [if_neg (by omega)]; omega
theorem xor_bud {a k : Nat} (h : Dy a k) : a ^^^ 2 ^ k = bud a k := by
  obtain ⟨q, hq⟩ : ∃ q, q = a / 2 ^ k := ⟨_, rfl⟩
  have ha : a = q * 2 ^ k := by rw [hq]; exact dy_eq h
  subst ha
  have h1 : q * 2 ^ k ^^^ 2 ^ k = (q ^^^ 1) * 2 ^ k := by
    have := Nat.shiftLeft_xor_distrib (a := q) (b := 1) (i := k)
    rw [Nat.shiftLeft_eq, Nat.shiftLeft_eq, Nat.shiftLeft_eq, Nat.one_mul] at this
    exact this.symm
  have hp : par (q * 2 ^ k) k = q / 2 * (2 * 2 ^ k) := by
    unfold par
    rw [Nat.pow_succ, Nat.mul_comm (2 ^ k) 2, Nat.mul_div_mul_right _ _ (p2 k)]
  rw [h1, xor_one]
  unfold bud
  rw [hp]
  obtain ⟨p, hp2⟩ : ∃ p, p = 2 ^ k := ⟨_, rfl⟩
  have hp0 : 0 < p := hp2 ▸ p2 k
  rw [← hp2]
  rcases Nat.mod_two_eq_zero_or_one q with h3 | h3
  · have h4 : q * p = q / 2 * (2 * p) := by rw [← Nat.mul_assoc]; congr 1; omega
    rw [if_pos h3, if_pos h4, Nat.add_mul, Nat.one_mul]
  · have h4 : q = q / 2 * 2 + 1 := by omega
    have h5 : q * p = q / 2 * (2 * p) + p := by
      conv => lhs; rw [h4]
      rw [Nat.add_mul, Nat.one_mul, Nat.mul_assoc]
    rw [if_neg (by omega), if_neg (by omega), Nat.sub_mul, Nat.one_mul]
theorem par_bits {a k : Nat} (h : Dy a k) (hk : k < 64) (ha : a < 2 ^ 64) : a &&& (2 ^ 64 - (2 ^ k + 1)) = par a k := by
  apply Nat.eq_of_testBit_eq
  intro i
  have hk2 : 2 ^ k < 2 ^ 64 := Nat.pow_lt_pow_right (by omega) hk
  rw [Nat.testBit_and, Nat.testBit_two_pow_sub_succ hk2, Nat.testBit_two_pow]
  unfold par
  rw [Nat.testBit_mul_two_pow, Nat.testBit_div_two_pow]
  rw [dy_eq h, Nat.testBit_mul_two_pow]
  by_cases h1 : k + 1 ≤ i
  · have h2 : k ≤ i := by omega
    have h3 : k ≠ i := by omega
    rw [show i - (k + 1) + (k + 1) = i by omega, Nat.testBit_mul_two_pow]
    by_cases h4 : i < 64
    · simp [h1, h2, h3, h4]
    · have h5 : (a / 2 ^ k).testBit (i - k) = false := by
        rw [Nat.testBit_div_two_pow, show i - k + k = i by omega]
        exact Nat.testBit_lt_two_pow (Nat.lt_of_lt_of_le ha (Nat.pow_le_pow_right (by omega) (by omega)))
      simp [h5]
  · by_cases h2 : k = i
    · have h6 : decide (k + 1 ≤ i) = false := decide_eq_false h1
      rw [h6]; simp [h2]
    · have h3 : ¬ k ≤ i := by omega
      simp [h1, h3]
theorem i64_bud {a k : Nat} (h : Dy a k) (hk : k ≤ 16) (ha : a ≤ 65536) : bits .xor .i64 (a : Int) ((2 : Int) ^ k) = (bud a k : Int) := by
  have h2 : 2 ^ k ≤ 2 ^ 16 := Nat.pow_le_pow_right (by omega) hk
  have e : (2 : Int) ^ k = ((2 ^ k : Nat) : Int) := (Int.natCast_pow 2 k).symm
  have hb : bud a k ≤ 131072 := by
    unfold bud
    generalize 2 ^ k = p at *
    split <;> omega
  rw [e]
  show IntKind.i64.wrap ((BitVec.ofInt 64 (a : Int) ^^^ BitVec.ofInt 64 ((2 ^ k : Nat) : Int)).toNat : Int) = _
  rw [BitVec.toNat_xor, BitVec.ofInt_natCast, BitVec.ofInt_natCast, BitVec.toNat_ofNat, BitVec.toNat_ofNat, Nat.mod_eq_of_lt (by omega : 2 ^ k < 2 ^ 64), Nat.mod_eq_of_lt (by omega : a < 2 ^ 64), xor_bud h, IntKind.wrap_i64]
  omega
theorem i64_par {a k : Nat} (h : Dy a k) (hk : k ≤ 16) (ha : a ≤ 65536) : bits .andNot .i64 (a : Int) ((2 : Int) ^ k) = (par a k : Int) := by
  have h2 : 2 ^ k ≤ 2 ^ 16 := Nat.pow_le_pow_right (by omega) hk
  have e : (2 : Int) ^ k = ((2 ^ k : Nat) : Int) := (Int.natCast_pow 2 k).symm
  have hb : par a k ≤ a := Nat.div_mul_le_self _ _
  rw [e]
  show IntKind.i64.wrap ((BitVec.ofInt 64 (a : Int) &&& ~~~ BitVec.ofInt 64 ((2 ^ k : Nat) : Int)).toNat : Int) = _
  rw [BitVec.toNat_and, BitVec.toNat_not, BitVec.ofInt_natCast, BitVec.ofInt_natCast, BitVec.toNat_ofNat, BitVec.toNat_ofNat, Nat.mod_eq_of_lt (by omega : 2 ^ k < 2 ^ 64), Nat.mod_eq_of_lt (by omega : a < 2 ^ 64), show 2 ^ 64 - 1 - 2 ^ k = 2 ^ 64 - (2 ^ k + 1) by omega, par_bits h (by omega) (by omega), IntKind.wrap_i64]
  omega
end Go.Proofs.Ytncjhfofmeamdaa
