/- Bits and bytes of addresses; what two have in common. Plain laws. -/
import Derived.Test.YtnklbeigikcfkaaGreatDoorPb
namespace Go.Proofs.YtnklbeigikcfkaaGreatDoor

theorem bit_zero_of_div {n k : Nat} (h : 2 ^ (k + 1) ∣ n) : n / 2 ^ k % 2 = 0 := by
  obtain ⟨u, rfl⟩ := h
  rw [Nat.pow_succ, Nat.mul_assoc, Nat.mul_div_cancel_left _ (Nat.two_pow_pos k)]
  omega
theorem bit_cut {n j k : Nat} (h : j ≤ k) : n / 2 ^ j * 2 ^ j / 2 ^ k % 2 = n / 2 ^ k % 2 := by
  obtain ⟨d, rfl⟩ := Nat.exists_eq_add_of_le h
  rw [Nat.pow_add, ← Nat.div_div_eq_div_mul, ← Nat.div_div_eq_div_mul, Nat.mul_div_cancel _ (Nat.two_pow_pos j)]
theorem bit_cut0 {n j k : Nat} (h : k < j) : n / 2 ^ j * 2 ^ j / 2 ^ k % 2 = 0 :=
  bit_zero_of_div (Nat.dvd_trans (Nat.pow_dvd_pow 2 h) (Nat.dvd_mul_left _ _))
/-- The i-th bit is that of the number. -/
theorem bit_num {a : Ad} (ho : a.ok) (hv : validA a = true) {i : Nat} (hi : i < widthA a) : bitA a (i : Int) = num a / 2 ^ (widthA a - 1 - i) % 2 := by
  obtain ⟨h1, h2⟩ := ho
  unfold bitA
  rw [if_neg (by rw [hv]; simp; omega)]
  cases hs : a.six with
  | false =>
    have hw : widthA a = 32 := by unfold widthA; rw [hs]; rfl
    have hnum : num a = a.lo := by unfold num; rw [hs]; rfl
    rw [if_pos rfl, hw, hnum, Int.toNat_natCast]
  | true =>
    have hw : widthA a = 128 := by unfold widthA; rw [hs]; rfl
    have hnum : num a = a.hi * 18446744073709551616 + a.lo := by unfold num; rw [hs]; rfl
    rw [if_neg (by simp), hw, hnum, Int.toNat_natCast]
    by_cases h64 : (i : Int) < 64
    · rw [if_pos h64]
      have e : 2 ^ (128 - 1 - i) = 2 ^ 64 * 2 ^ (63 - i) := by rw [← Nat.pow_add]; congr 1; omega
      have e3 : a.lo / 2 ^ 64 = 0 := Nat.div_eq_of_lt (by rw [← p64]; exact h2)
      rw [e, ← Nat.div_div_eq_div_mul, p64, Nat.mul_comm a.hi, Nat.mul_add_div (Nat.two_pow_pos 64), e3, Nat.add_zero]
    · rw [if_neg h64]
      have e : 127 - i = 128 - 1 - i := by omega
      rw [e]
      obtain ⟨q, hq⟩ : ∃ q, 18446744073709551616 = 2 ^ (128 - 1 - i) * (2 * q) := ⟨2 ^ (63 - (128 - 1 - i)), by
        rw [p64, ← Nat.mul_assoc, ← Nat.pow_succ, ← Nat.pow_add]; congr 1; omega⟩
      rw [hq, show a.hi * (2 ^ (128 - 1 - i) * (2 * q)) = 2 ^ (128 - 1 - i) * (2 * (a.hi * q)) by
        rw [← Nat.mul_assoc, Nat.mul_comm a.hi, Nat.mul_assoc, ← Nat.mul_assoc a.hi 2, Nat.mul_comm a.hi 2, Nat.mul_assoc 2], Nat.mul_add_div (Nat.two_pow_pos _)]
      omega
theorem bit_lt2 (a : Ad) (i : Int) : bitA a i < 2 := by
  unfold bitA
  split
  · omega
  · split
    · omega
    · split <;> omega
theorem bitA_cut {a : Ad} (ho : a.ok) (hv : validA a = true) {m : Nat} (hm : m ≤ widthA a) {i : Nat} (hi : i < widthA a) : bitA (cutA a m) (i : Int) = if i < m then bitA a (i : Int) else 0 := by
  have hw : widthA (cutA a (m : Int)) = widthA a := by unfold widthA; rw [cut_six]
  rw [bit_num (cut_ok ho _) (cut_valid hv _) (by rw [hw]; exact hi), hw, cut_num ho hm]
  by_cases h : i < m
  · rw [if_pos h, bit_cut (by omega), bit_num ho hv hi]
  · rw [if_neg h, bit_cut0 (by omega)]
/-- An address's bytes, the most significant one first. -/
def byteA (a : Ad) (j : Nat) : Nat := if a.six = true then (if j < 8 then a.hi / 2 ^ (56 - 8 * j) % 256 else a.lo / 2 ^ (120 - 8 * j) % 256) else a.lo / 2 ^ (24 - 8 * j) % 256
def bytesA (a : Ad) : List Nat := (List.range (if a.six = true then 16 else 4)).map (byteA a)
theorem bytesA_len (a : Ad) : (bytesA a).length = if a.six = true then 16 else 4 := by simp [bytesA]
theorem bytesA_at {a : Ad} {j : Nat} (h : j < if a.six = true then 16 else 4) : (bytesA a)[j]? = some (byteA a j) := by
  unfold bytesA
  rw [List.getElem?_map, List.getElem?_range h]
  rfl
theorem byteA_lt (a : Ad) (j : Nat) : byteA a j < 256 := by
  unfold byteA
  split
  · split <;> exact Nat.mod_lt _ (by omega)
  · exact Nat.mod_lt _ (by omega)
theorem byte_bit (n s r : Nat) (hr : r ≤ 7) : n / 2 ^ s % 256 / 2 ^ (7 - r) % 2 = n / 2 ^ (s + (7 - r)) % 2 := by
  rw [show (256 : Nat) = 2 ^ (7 - r) * 2 ^ (r + 1) by rw [← Nat.pow_add, show 7 - r + (r + 1) = 8 by omega], Nat.mod_mul_right_div_self, Nat.div_div_eq_div_mul, ← Nat.pow_add, Nat.pow_succ, Nat.mul_comm (2 ^ r) 2, Nat.mod_mul_right_mod]
theorem byte_bitA {a : Ad} (hv : validA a = true) {i : Nat} (hi : i < widthA a) : byteA a (i / 8) / 2 ^ (7 - i % 8) % 2 = bitA a (i : Int) := by
  unfold bitA
  rw [if_neg (by rw [hv]; simp; omega)]
  unfold byteA widthA at *
  cases hs : a.six with
  | false =>
    rw [hs] at hi
    simp only [Bool.false_eq_true, if_false, if_true] at hi ⊢
    rw [byte_bit _ _ _ (by omega), Int.toNat_natCast]
    congr 3; omega
  | true =>
    rw [hs] at hi
    simp only [if_true] at hi ⊢
    rw [Int.toNat_natCast]
    by_cases h : i < 64
    · have h8 : i / 8 < 8 := by omega
      have hI : (i : Int) < 64 := by omega
      simp only [h8, hI, if_true, if_false, Bool.true_eq_false]
      rw [byte_bit _ _ _ (by omega)]
      congr 3; omega
    · have h8 : ¬ i / 8 < 8 := by omega
      have hI : ¬ (i : Int) < 64 := by omega
      simp only [h8, hI, if_false, Bool.true_eq_false]
      rw [byte_bit _ _ _ (by omega)]
      congr 3; omega
/-- n first bits are alike, and no more. -/
def CmnIs (a b : Ad) (n : Nat) : Prop := n ≤ widthA a ∧ num a / 2 ^ (widthA a - n) = num b / 2 ^ (widthA a - n) ∧ (n = widthA a ∨ num a / 2 ^ (widthA a - 1 - n) % 2 ≠ num b / 2 ^ (widthA a - 1 - n) % 2)
theorem div_mono {x y i j : Nat} (h : i ≤ j) (e : x / 2 ^ i = y / 2 ^ i) : x / 2 ^ j = y / 2 ^ j := by
  obtain ⟨d, rfl⟩ := Nat.exists_eq_add_of_le h
  rw [Nat.pow_add, ← Nat.div_div_eq_div_mul, ← Nat.div_div_eq_div_mul, e]
theorem CmnIs.eq {a b : Ad} {n m : Nat} (h : CmnIs a b n) (k : CmnIs a b m) : n = m := by
  obtain ⟨h1, h2, h3⟩ := h
  obtain ⟨k1, k2, k3⟩ := k
  rcases Nat.lt_trichotomy n m with hl | hl | hl
  · exfalso
    rcases h3 with h3 | h3
    · omega
    · exact h3 (by rw [div_mono (i := widthA a - m) (by omega) k2])
  · exact hl
  · exfalso
    rcases k3 with k3 | k3
    · omega
    · exact k3 (by rw [div_mono (i := widthA a - n) (by omega) h2])
theorem CmnIs.step {a b : Ad} {n : Nat} (h1 : n < widthA a) (h2 : num a / 2 ^ (widthA a - n) = num b / 2 ^ (widthA a - n)) (h3 : num a / 2 ^ (widthA a - 1 - n) % 2 = num b / 2 ^ (widthA a - 1 - n) % 2) :
    num a / 2 ^ (widthA a - (n + 1)) = num b / 2 ^ (widthA a - (n + 1)) := by
  have e : widthA a - n = (widthA a - (n + 1)) + 1 := by omega
  have e2 : widthA a - 1 - n = widthA a - (n + 1) := by omega
  rw [e2] at h3
  rw [e, Nat.pow_succ, ← Nat.div_div_eq_div_mul, ← Nat.div_div_eq_div_mul] at h2
  omega
/-- A prefix holds whoever has its bits in common. -/
theorem holds_cmn {p : Px} {a : Ad} (hp : p.ad.ok) (ha : a.ok) (hv : validP p = true) (va : validA a = true) (hs : p.ad.six = a.six) {n : Nat} (hn : CmnIs p.ad a n) : holdsP p a = decide (p.bits ≤ (n : Int)) := by
  obtain ⟨k1, k2, k3, k4⟩ := (validP_iff hp).1 hv
  rw [Bool.eq_iff_iff, holdsP_iff hp ha, decide_eq_true_eq, ← in_block k4]
  simp only [hv, va, hs, true_and]
  have hj : p.j = widthA p.ad - p.bits.toNat := rfl
  have e0 : num p.ad / 2 ^ p.j * 2 ^ p.j = num p.ad := Nat.div_mul_cancel k4
  have hp2 : 0 < 2 ^ p.j := Nat.two_pow_pos _
  have e : (num a / 2 ^ p.j * 2 ^ p.j = num p.ad) ↔ num p.ad / 2 ^ p.j = num a / 2 ^ p.j := by
    constructor
    · intro h; rw [← h, Nat.mul_div_cancel _ hp2]
    · intro h; rw [← h]; exact e0
  rw [e, hj]
  obtain ⟨h1, h2, h3⟩ := hn
  constructor
  · intro h
    rcases (by omega : (n : Int) < p.bits ∨ p.bits ≤ (n : Int)) with hl | hl
    · exfalso
      rcases h3 with h3 | h3
      · omega
      · exact h3 (by rw [div_mono (i := widthA p.ad - p.bits.toNat) (by omega) h])
    · exact hl
  · intro h
    exact div_mono (by omega) h2
end Go.Proofs.YtnklbeigikcfkaaGreatDoor
