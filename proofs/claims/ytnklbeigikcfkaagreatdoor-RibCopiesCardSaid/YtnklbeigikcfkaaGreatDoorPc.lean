/- What two addresses have in common, byte by byte; an address out of its bits. Plain laws. -/
import Derived.Test.YtnklbeigikcfkaaGreatDoorPr
import Derived.Lib.ItoaNum
namespace Go.Proofs.YtnklbeigikcfkaaGreatDoor

def nby (a : Ad) : Nat := if a.six = true then 16 else 4
theorem nby_w (a : Ad) : widthA a = 8 * nby a := by unfold widthA nby; split <;> rfl
/-- A byte is that of the number. -/
theorem byte_num {a : Ad} (ho : a.ok) {j : Nat} (hj : j < nby a) : byteA a j = num a / 2 ^ (widthA a - 8 - 8 * j) % 256 := by
  obtain ⟨h1, h2⟩ := ho
  unfold byteA
  cases hs : a.six with
  | false =>
    have hw : widthA a = 32 := by unfold widthA; rw [hs]; rfl
    have hnum : num a = a.lo := by unfold num; rw [hs]; rfl
    rw [if_neg (by simp), hw, hnum]
  | true =>
    have hw : widthA a = 128 := by unfold widthA; rw [hs]; rfl
    have hn : nby a = 16 := by unfold nby; rw [hs]; rfl
    have hnum : num a = a.hi * 18446744073709551616 + a.lo := by unfold num; rw [hs]; rfl
    rw [if_pos rfl, hw, hnum]
    by_cases h : j < 8
    · rw [if_pos h]
      have e : 2 ^ (128 - 8 - 8 * j) = 2 ^ 64 * 2 ^ (56 - 8 * j) := by rw [← Nat.pow_add]; congr 1; omega
      have e3 : a.lo / 2 ^ 64 = 0 := Nat.div_eq_of_lt (by rw [← p64]; exact h2)
      rw [e, ← Nat.div_div_eq_div_mul, p64, Nat.mul_comm a.hi, Nat.mul_add_div (Nat.two_pow_pos 64), e3, Nat.add_zero]
    · rw [if_neg h]
      have e : 120 - 8 * j = 128 - 8 - 8 * j := by omega
      rw [e]
      obtain ⟨q, hq⟩ : ∃ q, 18446744073709551616 = 2 ^ (128 - 8 - 8 * j) * (256 * q) := ⟨2 ^ (56 - (128 - 8 - 8 * j)), by
        rw [p64, show (256 : Nat) = 2 ^ 8 from rfl, ← Nat.pow_add, ← Nat.pow_add]; congr 1; omega⟩
      rw [hq, show a.hi * (2 ^ (128 - 8 - 8 * j) * (256 * q)) = 2 ^ (128 - 8 - 8 * j) * (256 * (a.hi * q)) by
        rw [← Nat.mul_assoc, Nat.mul_comm a.hi, Nat.mul_assoc, ← Nat.mul_assoc a.hi 256, Nat.mul_comm a.hi 256, Nat.mul_assoc 256], Nat.mul_add_div (Nat.two_pow_pos _)]
      omega
theorem num_split {a : Ad} (ho : a.ok) {i : Nat} (hi : i < nby a) : num a / 2 ^ (widthA a - 8 * (i + 1)) = 256 * (num a / 2 ^ (widthA a - 8 * i)) + byteA a i := by
  rw [byte_num ho hi]
  have hw := nby_w a
  have e : 2 ^ (widthA a - 8 * i) = 2 ^ (widthA a - 8 * (i + 1)) * 256 := by
    rw [show (256 : Nat) = 2 ^ 8 from rfl, ← Nat.pow_add]; congr 1; omega
  rw [e, ← Nat.div_div_eq_div_mul, show widthA a - 8 - 8 * i = widthA a - 8 * (i + 1) by omega]
  omega
theorem pre_eq {a b : Ad} (ha : a.ok) (hb : b.ok) (va : validA a = true) (vb : validA b = true) (hs : a.six = b.six) : ∀ i, i ≤ nby a → (∀ j, j < i → byteA a j = byteA b j) → num a / 2 ^ (widthA a - 8 * i) = num b / 2 ^ (widthA a - 8 * i)
  | 0, _, _ => by
    have h1 := num_lt ha va
    have h2 := num_lt hb vb
    have hw : widthA b = widthA a := by unfold widthA; rw [hs]
    rw [hw] at h2
    rw [Nat.mul_zero, Nat.sub_zero, Nat.div_eq_of_lt h1, Nat.div_eq_of_lt h2]
  | i + 1, hi, h => by
    have ih := pre_eq ha hb va vb hs i (by omega) fun j hj => h j (by omega)
    have hw : widthA b = widthA a := by unfold widthA; rw [hs]
    have hn : nby b = nby a := by unfold nby; rw [hs]
    have e1 := num_split ha (i := i) (by omega)
    have e2 := num_split hb (i := i) (by omega)
    rw [hw] at e2
    rw [e1, e2, ih, h i (by omega)]
theorem cmn_all {a b : Ad} (ha : a.ok) (hb : b.ok) (va : validA a = true) (vb : validA b = true) (hs : a.six = b.six) (h : ∀ j, j < nby a → byteA a j = byteA b j) : CmnIs a b (widthA a) := by
  refine ⟨Nat.le_refl _, ?_, .inl rfl⟩
  have := pre_eq ha hb va vb hs (nby a) (Nat.le_refl _) h
  rwa [← nby_w] at this
theorem xor_div (x y k : Nat) : (x ^^^ y) / 2 ^ k = (x / 2 ^ k) ^^^ (y / 2 ^ k) := by
  rw [← Nat.shiftRight_eq_div_pow, ← Nat.shiftRight_eq_div_pow, ← Nat.shiftRight_eq_div_pow, Nat.shiftRight_xor_distrib]
theorem xor_zero {x y : Nat} (h : x ^^^ y = 0) : x = y := Nat.eq_of_testBit_eq fun i => by
  have h1 : (x ^^^ y).testBit i = false := by rw [h]; exact Nat.zero_testBit i
  rw [Nat.testBit_xor] at h1
  revert h1
  cases x.testBit i <;> cases y.testBit i <;> simp
theorem xor_ne {x y : Nat} (h : x ≠ y) : x ^^^ y ≠ 0 := fun e => h (xor_zero e)
theorem cmn_byte {a b : Ad} (ha : a.ok) (hb : b.ok) (va : validA a = true) (vb : validA b = true) (hs : a.six = b.six) {i : Nat} (hi : i < nby a) (h : ∀ j, j < i → byteA a j = byteA b j) (hne : byteA a i ≠ byteA b i) :
    CmnIs a b (8 * i + (8 - Lib.bitLen (byteA a i ^^^ byteA b i))) := by
  have hx := byteA_lt a i
  have hy := byteA_lt b i
  have hd : byteA a i ^^^ byteA b i < 2 ^ 8 := Nat.xor_lt_two_pow hx hy
  obtain ⟨b1, b2, b3⟩ := Lib.bitLenAux_bounds 64 (byteA a i ^^^ byteA b i) (Nat.lt_of_lt_of_le hd (Nat.pow_le_pow_right (by omega) (by omega))) (xor_ne hne)
  have hL8 : Lib.bitLen (byteA a i ^^^ byteA b i) ≤ 8 := Lib.bitLen_le _ 8 (by omega) hd
  have hw := nby_w a
  have hwb : widthA b = widthA a := by unfold widthA; rw [hs]
  have hn : nby b = nby a := by unfold nby; rw [hs]
  have e1 := num_split ha hi
  have e2 := num_split hb (i := i) (by omega)
  rw [hwb, ← pre_eq ha hb va vb hs i (by omega) h] at e2
  change 1 ≤ Lib.bitLen (byteA a i ^^^ byteA b i) at b1
  change 2 ^ (Lib.bitLen (byteA a i ^^^ byteA b i) - 1) ≤ _ at b2
  change _ < 2 ^ Lib.bitLen (byteA a i ^^^ byteA b i) at b3
  generalize Lib.bitLen (byteA a i ^^^ byteA b i) = L at *
  generalize num a / 2 ^ (widthA a - 8 * i) = Q at *
  generalize byteA a i = x at *
  generalize byteA b i = y at *
  have hs1 : widthA a - (8 * i + (8 - L)) = (widthA a - 8 * (i + 1)) + L := by omega
  have hs2 : widthA a - 1 - (8 * i + (8 - L)) = (widthA a - 8 * (i + 1)) + (L - 1) := by omega
  refine ⟨by omega, ?_, .inr ?_⟩
  · rw [hs1, Nat.pow_add, ← Nat.div_div_eq_div_mul, ← Nat.div_div_eq_div_mul, e1, e2]
    obtain ⟨q, hq⟩ : ∃ q, 256 * Q = 2 ^ L * q := ⟨2 ^ (8 - L) * Q, by rw [← Nat.mul_assoc, ← Nat.pow_add, show L + (8 - L) = 8 by omega]⟩
    have h0 : (x ^^^ y) / 2 ^ L = 0 := Nat.div_eq_of_lt b3
    rw [xor_div] at h0
    rw [hq, Nat.mul_add_div (Nat.two_pow_pos L), Nat.mul_add_div (Nat.two_pow_pos L), xor_zero h0]
  · rw [hs2, Nat.pow_add, ← Nat.div_div_eq_div_mul, ← Nat.div_div_eq_div_mul, e1, e2]
    obtain ⟨q, hq⟩ : ∃ q, 256 * Q = 2 ^ (L - 1) * (2 * q) := ⟨2 ^ (8 - L) * Q, by rw [← Nat.mul_assoc, ← Nat.mul_assoc, ← Nat.pow_succ, ← Nat.pow_add, show L - 1 + 1 + (8 - L) = 8 by omega]⟩
    have h1 : (x ^^^ y) / 2 ^ (L - 1) = 1 := by
      rw [Nat.div_eq_iff (Nat.two_pow_pos _)]
      have e : 2 ^ L = 2 * 2 ^ (L - 1) := by rw [Nat.mul_comm, ← Nat.pow_succ]; congr 1; omega
      omega
    rw [xor_div] at h1
    rw [hq, Nat.mul_add_div (Nat.two_pow_pos _), Nat.mul_add_div (Nat.two_pow_pos _)]
    intro e
    have e3 : x / 2 ^ (L - 1) % 2 = y / 2 ^ (L - 1) % 2 := by omega
    have h2 : (x / 2 ^ (L - 1) ^^^ y / 2 ^ (L - 1)) % 2 = 1 % 2 := by rw [h1]
    have h4 : (x / 2 ^ (L - 1) ^^^ y / 2 ^ (L - 1)) % 2 = ((x / 2 ^ (L - 1)) % 2 ^^^ (y / 2 ^ (L - 1)) % 2) := by
      have := Nat.xor_mod_two_pow (a := x / 2 ^ (L - 1)) (b := y / 2 ^ (L - 1)) (n := 1)
      simpa using this
    rw [h4, e3, Nat.xor_self] at h2
    omega
/-- An address out of its first bits. -/
def ofAt (b : Ad) (i : Nat) : Ad := if b.six = true then (if i ≤ 64 then ⟨true, b.hi / 2 ^ (64 - i), 0⟩ else ⟨true, b.hi, b.lo / 2 ^ (128 - i)⟩) else ⟨false, 0, b.lo / 2 ^ (32 - i)⟩
theorem half_bit (n k : Nat) : n / 2 ^ k = n / 2 ^ (k + 1) * 2 + n / 2 ^ k % 2 := by
  rw [Nat.pow_succ, ← Nat.div_div_eq_div_mul]; omega
theorem ofAt_step {b : Ad} (ho : b.ok) (hv : validA b = true) {i : Nat} (hi : i < widthA b) :
    ofAt b (i + 1) = if b.six = true ∧ i < 64 then ⟨b.six, (ofAt b i).hi * 2 + bitA b (i : Int), (ofAt b i).lo⟩ else ⟨b.six, (ofAt b i).hi, (ofAt b i).lo * 2 + bitA b (i : Int)⟩ := by
  obtain ⟨h1, h2⟩ := ho
  have hb : bitA b (i : Int) = if b.six = false then b.lo / 2 ^ (31 - i) % 2 else if i < 64 then b.hi / 2 ^ (63 - i) % 2 else b.lo / 2 ^ (127 - i) % 2 := by
    unfold bitA
    rw [if_neg (by rw [hv]; simp; omega), Int.toNat_natCast]
    congr 1
    by_cases h : i < 64
    · rw [if_pos h, if_pos (by omega)]
    · rw [if_neg h, if_neg (by omega)]
  rw [hb]
  unfold ofAt widthA at *
  cases hs : b.six with
  | false =>
    rw [hs] at hi
    simp only [Bool.false_eq_true, if_false, false_and] at hi ⊢
    rw [if_pos trivial, show 32 - (i + 1) = 31 - i by omega, Ad.mk.injEq]
    refine ⟨rfl, rfl, ?_⟩
    conv => lhs; rw [half_bit b.lo (31 - i)]
    rw [show 31 - i + 1 = 32 - i by omega]
  | true =>
    rw [hs] at hi
    simp only [if_true, true_and, Bool.true_eq_false, if_false] at hi ⊢
    by_cases h : i < 64
    · rw [if_pos h, if_pos (by omega), if_pos (by omega), if_pos h, show 64 - (i + 1) = 63 - i by omega]
      rw [Ad.mk.injEq]
      refine ⟨rfl, ?_, rfl⟩
      show b.hi / 2 ^ (63 - i) = b.hi / 2 ^ (64 - i) * 2 + b.hi / 2 ^ (63 - i) % 2
      conv => lhs; rw [half_bit b.hi (63 - i)]
      rw [show 63 - i + 1 = 64 - i by omega]
    · rw [if_neg h, if_neg (by omega), if_neg h, show 128 - (i + 1) = 127 - i by omega]
      by_cases h64 : i ≤ 64
      · obtain rfl : i = 64 := by omega
        rw [if_pos (by omega), Ad.mk.injEq]
        refine ⟨rfl, by simp, ?_⟩
        show b.lo / 2 ^ 63 = 0 * 2 + b.lo / 2 ^ 63 % 2
        have : b.lo / 2 ^ 63 < 2 := by
          rw [Nat.div_lt_iff_lt_mul (Nat.two_pow_pos 63)]
          have e : (2 : Nat) * 2 ^ 63 = 18446744073709551616 := by decide
          rw [e]; exact h2
        omega
      · rw [if_neg h64, Ad.mk.injEq]
        refine ⟨rfl, rfl, ?_⟩
        show b.lo / 2 ^ (127 - i) = b.lo / 2 ^ (128 - i) * 2 + b.lo / 2 ^ (127 - i) % 2
        conv => lhs; rw [half_bit b.lo (127 - i)]
        rw [show 127 - i + 1 = 128 - i by omega]
theorem ofAt_zero {b : Ad} (ho : b.ok) (hv : validA b = true) : ofAt b 0 = ⟨b.six, 0, 0⟩ := by
  obtain ⟨h1, h2⟩ := ho
  unfold ofAt
  cases hs : b.six with
  | false =>
    unfold validA at hv
    rw [hs] at hv
    simp at hv
    simp only [Bool.false_eq_true, if_false]
    rw [Nat.div_eq_of_lt (by have : (2 : Nat) ^ (32 - 0) = 4294967296 := by decide
                             omega)]
  | true =>
    simp only [if_true]
    rw [if_pos (by omega), Nat.div_eq_of_lt (by have : (2 : Nat) ^ (64 - 0) = 18446744073709551616 := by decide
                                                omega)]
theorem ofAt_all {b : Ad} (hv : validA b = true) : ofAt b (widthA b) = b := by
  obtain ⟨s, hi, lo⟩ := b
  unfold ofAt widthA validA at *
  cases s with
  | false => simp at hv ⊢; exact hv.1.symm
  | true => simp
end Go.Proofs.YtnklbeigikcfkaaGreatDoor
