/- What floats of whole numbers below 2^53 are: read, added, held against 0 and 1, divided. No program. -/
import Derived.WalkKit
import Derived.WalkLawsBesides
namespace Go.Proofs.Ytpmhncblhdddhaa
open Ieee

/-- The float of a whole number. -/
def fl (n : Nat) : Nat := double.nearest false n 0
/-- The float 1. -/
def one : Nat := 4607182418800017408

theorem pow_pos (k : Nat) : 0 < 2 ^ k := Nat.two_pow_pos k

/-- A cut that drops only zeroes. -/
theorem cut_exact (neg : Bool) (m d : Nat) (hm : 0 < m) : Toward.even.cut neg (m * 2 ^ d) d = m := by
  have hne : m * 2 ^ d ≠ 0 := Nat.ne_of_gt (Nat.mul_pos hm (pow_pos d))
  have hd : d ≤ (m * 2 ^ d).log2 := by
    rw [Nat.le_log2 hne]
    exact Nat.le_mul_of_pos_left _ hm
  unfold Toward.cut
  have e1 : min d ((m * 2 ^ d).log2 + 2) = d := Nat.min_eq_left (by omega)
  simp only [e1, Nat.shiftLeft_eq, Nat.one_mul]
  rw [Nat.mul_div_cancel _ (pow_pos d), Nat.mul_mod_left]
  have hp := pow_pos d
  simp

/-- A cut of a number below 2^(53+d). -/
theorem cut_le (neg : Bool) (n d : Nat) (hn : n < 2 ^ (53 + d)) : Toward.even.cut neg n d ≤ 2 ^ 53 := by
  unfold Toward.cut
  simp only [Nat.shiftLeft_eq, Nat.one_mul]
  by_cases h : d ≤ n.log2 + 2
  · rw [Nat.min_eq_left h]
    have h1 : n / 2 ^ d < 2 ^ 53 := by
      rw [Nat.div_lt_iff_lt_mul (pow_pos d), ← Nat.pow_add]
      exact hn
    have h2 : ∀ b : Bool, b.toNat ≤ 1 := fun b => by cases b <;> simp
    have := h2 (decide (2 ^ d < 2 * (n % 2 ^ d)) || 2 ^ d == 2 * (n % 2 ^ d) && n / 2 ^ d % 2 == 1)
    omega
  · rw [Nat.min_eq_right (by omega)]
    have h0 : n < 2 ^ (n.log2 + 1) := Nat.lt_log2_self
    have h3 : 2 ^ (n.log2 + 2) = 2 * 2 ^ (n.log2 + 1) := by rw [show n.log2 + 2 = (n.log2 + 1) + 1 from rfl, Nat.pow_succ]; omega
    rw [Nat.div_eq_of_lt (by omega), Nat.mod_eq_of_lt (by omega)]
    have e1 : decide (2 ^ (n.log2 + 2) < 2 * n) = false := by simp; omega
    have e2 : (2 ^ (n.log2 + 2) == 2 * n) = false := by simp; omega
    rw [e1, e2]
    simp

theorem log2_scaled (n k : Nat) (hn : n ≠ 0) : (n * 2 ^ k).log2 = n.log2 + k := by
  have h1 := Nat.log2_self_le hn
  have h2 : n < 2 ^ (n.log2 + 1) := Nat.lt_log2_self
  rw [Nat.log2_eq_iff (Nat.ne_of_gt (Nat.mul_pos (Nat.pos_of_ne_zero hn) (pow_pos k)))]
  constructor
  · rw [Nat.pow_add]; exact Nat.mul_le_mul_right _ h1
  · rw [show n.log2 + k + 1 = (n.log2 + 1) + k from by omega, Nat.pow_add]; exact Nat.mul_lt_mul_of_pos_right h2 (pow_pos k)

/-- The rung of a whole number. -/
def rung (n : Nat) : Nat := (n.log2 + 1022) * 4503599627370496 + n * 2 ^ (52 - n.log2)

theorem log2_lt53 {n : Nat} (h0 : n ≠ 0) (h : n < 2 ^ 53) : n.log2 ≤ 52 := by
  have := (Nat.log2_lt h0).2 h
  omega

theorem sig_bounds {n : Nat} (h0 : n ≠ 0) (h : n < 2 ^ 53) : 4503599627370496 ≤ n * 2 ^ (52 - n.log2) ∧ n * 2 ^ (52 - n.log2) < 9007199254740992 := by
  have hl := log2_lt53 h0 h
  have h1 := Nat.log2_self_le h0
  have h2 : n < 2 ^ (n.log2 + 1) := Nat.lt_log2_self
  constructor
  · calc 4503599627370496 = 2 ^ n.log2 * 2 ^ (52 - n.log2) := by rw [← Nat.pow_add, show n.log2 + (52 - n.log2) = 52 from by omega]
      _ ≤ _ := Nat.mul_le_mul_right _ h1
  · calc n * 2 ^ (52 - n.log2) < 2 ^ (n.log2 + 1) * 2 ^ (52 - n.log2) := Nat.mul_lt_mul_of_pos_right h2 (pow_pos _)
      _ = 9007199254740992 := by rw [← Nat.pow_add, show n.log2 + 1 + (52 - n.log2) = 53 from by omega]

theorem leastPlace_eq : double.leastPlace = -1074 := by decide
theorem binade_eq : double.binade = 4503599627370496 := by decide
theorem infRung_eq : double.infRung = 9218868437227405312 := by decide
theorem weight_eq : double.signWeight = 9223372036854775808 := by decide

theorem nearest_scaled (n k : Nat) (h0 : n ≠ 0) (h : n < 2 ^ 53) : double.nearest false (n * 2 ^ k) (-(k : Int)) = rung n := by
  have hl := log2_lt53 h0 h
  obtain ⟨s1, s2⟩ := sig_bounds h0 h
  have hne : n * 2 ^ k ≠ 0 := Nat.ne_of_gt (Nat.mul_pos (Nat.pos_of_ne_zero h0) (pow_pos k))
  unfold Format.nearest
  rw [if_neg hne, log2_scaled n k h0, leastPlace_eq, binade_eq, infRung_eq]
  have e0 : (double.fractionBits : Int) = 52 := rfl
  rw [e0]
  have e1 : max (-(k : Int) + ((n.log2 + k : Nat) : Int) - 52) (-1074) = (n.log2 : Int) - 52 := by omega
  simp only [e1]
  have hkept : Toward.even.cut false ((n * 2 ^ k) <<< (-(k : Int) - ((n.log2 : Int) - 52)).toNat) (((n.log2 : Int) - 52) - -(k : Int)).toNat = n * 2 ^ (52 - n.log2) := by
    by_cases hk : k ≤ 52 - n.log2
    · have a1 : (-(k : Int) - ((n.log2 : Int) - 52)).toNat = 52 - n.log2 - k := by omega
      have a2 : (((n.log2 : Int) - 52) - -(k : Int)).toNat = 0 := by omega
      rw [a1, a2, Nat.shiftLeft_eq, Nat.mul_assoc, ← Nat.pow_add, show k + (52 - n.log2 - k) = 52 - n.log2 from by omega]
      have := cut_exact false (n * 2 ^ (52 - n.log2)) 0 (by omega)
      simpa using this
    · have a1 : (-(k : Int) - ((n.log2 : Int) - 52)).toNat = 0 := by omega
      have a2 : (((n.log2 : Int) - 52) - -(k : Int)).toNat = k - (52 - n.log2) := by omega
      rw [a1, a2]
      have : (n * 2 ^ k) <<< 0 = n * 2 ^ (52 - n.log2) * 2 ^ (k - (52 - n.log2)) := by
        rw [Nat.shiftLeft_eq, Nat.pow_zero, Nat.mul_one, Nat.mul_assoc, ← Nat.pow_add, show 52 - n.log2 + (k - (52 - n.log2)) = k from by omega]
      rw [this]
      exact cut_exact false _ _ (by omega)
  rw [hkept]
  have e2 : ((n.log2 : Int) - 52 - -1074).toNat = n.log2 + 1022 := by omega
  rw [e2]
  unfold Format.word rung
  simp only [Bool.false_eq_true, if_false]
  exact Nat.min_eq_left (by omega)

theorem nearest_zero (p : Int) : double.nearest false 0 p = 0 := by
  unfold Format.nearest Format.word
  simp

theorem fl_zero : fl 0 = 0 := nearest_zero 0
theorem fl_rung (n : Nat) (h0 : n ≠ 0) (h : n < 2 ^ 53) : fl n = rung n := by
  have := nearest_scaled n 0 h0 h
  simpa [fl] using this

theorem read_small (q : Nat) (h : q < 4503599627370496) : double.read q = .number false q (-1074) := by
  unfold Format.read
  rw [weight_eq, binade_eq, leastPlace_eq, Nat.div_eq_of_lt (by omega), Nat.mod_eq_of_lt (a := q) (b := 9223372036854775808) (by omega), if_pos h]
  simp

theorem read_normal (q : Nat) (h : 4503599627370496 ≤ q) (h2 : q < 9218868437227405312) :
    double.read q = .number false (4503599627370496 + q % 4503599627370496) (-1074 + ((q / 4503599627370496 - 1 : Nat) : Int)) := by
  unfold Format.read
  rw [weight_eq, binade_eq, leastPlace_eq, infRung_eq, Nat.div_eq_of_lt (by omega), Nat.mod_eq_of_lt (a := q) (b := 9223372036854775808) (by omega)]
  rw [if_neg (by omega), if_pos h2]
  simp

/-- A whole number's float is read as that number, scaled. -/
theorem read_fl (n : Nat) (h : n < 2 ^ 53) : ∃ k : Nat, k ≤ 1074 ∧ (n ≠ 0 → k = 52 - n.log2) ∧ double.read (fl n) = .number false (n * 2 ^ k) (-(k : Int)) := by
  by_cases h0 : n = 0
  · subst h0
    obtain ⟨k, hk⟩ : ∃ k : Nat, k = 1074 := ⟨_, rfl⟩
    exact ⟨k, by omega, fun h => absurd rfl h, by rw [fl_zero, read_small 0 (by omega), Nat.zero_mul, show (-1074 : Int) = -(k : Int) from by omega]⟩
  · have hl := log2_lt53 h0 h
    obtain ⟨s1, s2⟩ := sig_bounds h0 h
    refine ⟨52 - n.log2, by omega, fun _ => rfl, ?_⟩
    rw [fl_rung n h0 h]
    generalize hs : n * 2 ^ (52 - n.log2) = s at *
    have hr : rung n = (n.log2 + 1022) * 4503599627370496 + s := by unfold rung; rw [hs]
    rw [read_normal _ (by rw [hr]; omega) (by rw [hr]; omega)]
    have e1 : rung n % 4503599627370496 = s - 4503599627370496 := by rw [hr]; omega
    have e2 : rung n / 4503599627370496 = n.log2 + 1023 := by rw [hr]; omega
    rw [e1, e2, show 4503599627370496 + (s - 4503599627370496) = s from by omega, show (-1074 : Int) + ((n.log2 + 1023 - 1 : Nat) : Int) = -((52 - n.log2 : Nat) : Int) from by omega]

theorem signed_false (m u : Nat) : signed false m u = ((m * 2 ^ u : Nat) : Int) := by
  unfold signed
  simp [Nat.shiftLeft_eq]

theorem scale_up (n i K : Nat) (h : i ≤ K) : n * 2 ^ i * 2 ^ (K - i) = n * 2 ^ K := by
  rw [Nat.mul_assoc, ← Nat.pow_add, show i + (K - i) = K from by omega]

/-- Whole numbers add up exactly. -/
theorem add_fl (a b : Nat) (h : a + b < 2 ^ 53) : double.add (fl a) (fl b) = some (fl (a + b)) := by
  obtain ⟨i, _, _, ha⟩ := read_fl a (by omega)
  obtain ⟨j, _, _, hb⟩ := read_fl b (by omega)
  unfold Format.add
  rw [ha, hb]
  unfold Datum.sum
  have e0 : min (-(i : Int)) (-(j : Int)) = -((max i j : Nat) : Int) := by omega
  simp only [e0, signed_false]
  have e1 : (-(i : Int) - -((max i j : Nat) : Int)).toNat = max i j - i := by omega
  have e2 : (-(j : Int) - -((max i j : Nat) : Int)).toNat = max i j - j := by omega
  rw [e1, e2, scale_up a i _ (Nat.le_max_left _ _), scale_up b j _ (Nat.le_max_right _ _)]
  have e3 : ((a * 2 ^ max i j : Nat) : Int) + ((b * 2 ^ max i j : Nat) : Int) = (((a + b) * 2 ^ max i j : Nat) : Int) := by rw [Nat.add_mul]; omega
  rw [e3]
  generalize max i j = K
  have e4 : (if (((a + b) * 2 ^ K : Nat) : Int) = 0 then (false && false) else decide ((((a + b) * 2 ^ K : Nat) : Int) < 0)) = false := by
    split
    · rfl
    · exact decide_eq_false (Int.not_lt.2 (Int.natCast_nonneg _))
  rw [e4, Int.natAbs_natCast]
  simp only [Option.map_some]
  unfold Format.write
  simp only
  by_cases h0 : a + b = 0
  · rw [h0, Nat.zero_mul, nearest_zero, fl_zero]
  · rw [nearest_scaled _ K h0 h, fl_rung _ h0 h]

/-- Held against 0. -/
theorem order_zero (n : Nat) (h : n < 2 ^ 53) : (double.order (fl n) 0 == some Ordering.eq) = decide (n = 0) := by
  obtain ⟨i, hi, _, ha⟩ := read_fl n h
  unfold Format.order
  rw [ha, read_small 0 (by omega)]
  unfold Datum.order
  have e0 : min (-(i : Int)) (-1074) = -1074 := by omega
  simp only [e0, signed_false]
  generalize ((-(i : Int) - -1074).toNat) = u
  have hp : 0 < 2 ^ i * 2 ^ u := Nat.mul_pos (pow_pos i) (pow_pos u)
  by_cases h0 : n = 0
  · subst h0
    simp [compare, compareOfLessAndEq]
  · have hpos : 0 < n * 2 ^ i * 2 ^ u := by rw [Nat.mul_assoc]; exact Nat.mul_pos (Nat.pos_of_ne_zero h0) hp
    generalize n * 2 ^ i * 2 ^ u = z at *
    have h1 : ¬ ((z : Int) < ((0 * 2 ^ ((-1074 : Int) - -1074).toNat : Nat) : Int)) := by simp
    have h2 : ¬ ((z : Int) = ((0 * 2 ^ ((-1074 : Int) - -1074).toNat : Nat) : Int)) := by simp; omega
    simp only [compare, compareOfLessAndEq, if_neg h1, if_neg h2]
    simp [h0]


/-- Of a number not above 1 the nearest float is not above 1; of 1 it is 1. -/
theorem nearest_le (mag P : Nat) (h : mag ≤ 2 ^ P) : double.nearest false mag (-(P : Int)) ≤ one ∧ (mag = 2 ^ P → double.nearest false mag (-(P : Int)) = one) := by
  by_cases h0 : mag = 0
  · subst h0
    rw [nearest_zero]
    exact ⟨Nat.zero_le _, fun h => absurd h (Nat.ne_of_lt (pow_pos P))⟩
  · by_cases hP : mag = 2 ^ P
    · have h1 := nearest_scaled 1 P (by omega) (by omega)
      have h2 : rung 1 = one := by
        unfold rung one
        have : Nat.log2 1 = 0 := by decide
        rw [this]
      rw [hP, ← Nat.one_mul (2 ^ P), h1, h2]
      exact ⟨Nat.le_refl _, fun _ => rfl⟩
    · refine ⟨?_, fun h => absurd h hP⟩
      have hlt : mag < 2 ^ P := by omega
      have hL : mag.log2 < P := (Nat.log2_lt h0).2 hlt
      have hm : mag < 2 ^ (mag.log2 + 1) := Nat.lt_log2_self
      unfold Format.nearest
      rw [if_neg h0, leastPlace_eq, binade_eq, infRung_eq]
      have e0 : (double.fractionBits : Int) = 52 := rfl
      rw [e0]
      obtain ⟨last, hlast⟩ : ∃ x : Int, x = max (-(P : Int) + (mag.log2 : Int) - 52) (-1074) := ⟨_, rfl⟩
      simp only [← hlast]
      have hkept : Toward.even.cut false (mag <<< (-(P : Int) - last).toNat) (last - -(P : Int)).toNat ≤ 2 ^ 53 := by
        by_cases hd : -(P : Int) ≤ last
        · have a1 : (-(P : Int) - last).toNat = 0 := by omega
          rw [a1, Nat.shiftLeft_eq, Nat.pow_zero, Nat.mul_one]
          refine cut_le false mag _ (Nat.lt_of_lt_of_le hm (Nat.pow_le_pow_right (by omega) (by omega)))
        · have a2 : (last - -(P : Int)).toNat = 0 := by omega
          rw [a2, Nat.shiftLeft_eq]
          refine cut_le false _ 0 ?_
          calc mag * 2 ^ (-(P : Int) - last).toNat < 2 ^ (mag.log2 + 1) * 2 ^ (-(P : Int) - last).toNat := Nat.mul_lt_mul_of_pos_right hm (pow_pos _)
            _ = 2 ^ (mag.log2 + 1 + (-(P : Int) - last).toNat) := by rw [← Nat.pow_add]
            _ ≤ 2 ^ (53 + 0) := Nat.pow_le_pow_right (by omega) (by omega)
      generalize Toward.even.cut false (mag <<< (-(P : Int) - last).toNat) (last - -(P : Int)).toNat = kept at *
      unfold Format.word one
      simp only [Bool.false_eq_true, if_false]
      have h53 : (2 : Nat) ^ 53 = 9007199254740992 := by decide
      have e1 : (last - -1074).toNat ≤ 1021 := by omega
      refine Nat.le_trans (Nat.min_le_left _ _) ?_
      omega

/-- A float not above 1, held against itself, 0 and 1. -/
theorem order_small (q : Nat) (h : q ≤ one) : (double.order q q == some Ordering.eq) = true ∧ (double.order q 0 == some Ordering.gt || double.order q 0 == some Ordering.eq) = true ∧ (double.order q one == some Ordering.lt || double.order q one == some Ordering.eq) = true := by
  have hone : double.read one = .number false 4503599627370496 (-52) := by
    rw [show one = 4607182418800017408 from rfl, read_normal _ (by omega) (by omega)]
    rfl
  have cmp0 : ∀ z : Nat, (compare (z : Int) 0 = Ordering.gt ∨ compare (z : Int) 0 = Ordering.eq) := fun z => by
    simp only [compare, compareOfLessAndEq]
    by_cases hz : z = 0
    · right; subst hz; simp
    · left; rw [if_neg (by omega), if_neg (by omega)]
  have cmp1 : ∀ x y : Nat, x ≤ y → (compare (x : Int) (y : Int) = Ordering.lt ∨ compare (x : Int) (y : Int) = Ordering.eq) := fun x y hxy => by
    simp only [compare, compareOfLessAndEq]
    by_cases hz : x = y
    · right; subst hz; simp
    · left; rw [if_pos (by omega)]
  have main : ∀ (M : Nat) (e : Nat), double.read q = .number false M (-1074 + (e : Int)) → e ≤ 1022 → M ≤ 4503599627370496 * 2 ^ (1022 - e) →
      (double.order q q == some Ordering.eq) = true ∧ (double.order q 0 == some Ordering.gt || double.order q 0 == some Ordering.eq) = true ∧ (double.order q one == some Ordering.lt || double.order q one == some Ordering.eq) = true := by
    intro M e hr he hM
    unfold Format.order
    rw [hr, hone, read_small 0 (by omega)]
    unfold Datum.order
    have b0 : min (-1074 + (e : Int)) (-1074 + (e : Int)) = -1074 + (e : Int) := by omega
    have b1 : min (-1074 + (e : Int)) (-1074) = -1074 := by omega
    have b2 : min (-1074 + (e : Int)) (-52) = -1074 + (e : Int) := by omega
    simp only [b0, b1, b2, signed_false, Nat.zero_mul]
    have u0 : (-1074 + (e : Int) - (-1074 + (e : Int))).toNat = 0 := by omega
    have u1 : (-52 - (-1074 + (e : Int))).toNat = 1022 - e := by omega
    rw [u0, u1, Nat.pow_zero, Nat.mul_one]
    refine ⟨?_, ?_, ?_⟩
    · simp [compare, compareOfLessAndEq]
    · rcases cmp0 (M * 2 ^ (-1074 + (e : Int) - -1074).toNat) with h1 | h1 <;> simp only [Int.natCast_zero, h1] <;> rfl
    · rcases cmp1 M (4503599627370496 * 2 ^ (1022 - e)) hM with h1 | h1 <;> simp only [h1] <;> rfl
  by_cases hs : q < 4503599627370496
  · obtain ⟨e, he⟩ : ∃ e : Nat, e = 0 := ⟨_, rfl⟩
    refine main q e ((read_small q hs).trans (by rw [he]; rfl)) (by omega) ?_
    exact Nat.le_trans (Nat.le_of_lt hs) (Nat.le_mul_of_pos_right _ (pow_pos _))
  · unfold one at h
    refine main (4503599627370496 + q % 4503599627370496) (q / 4503599627370496 - 1) (read_normal q (by omega) (by omega)) (by omega) ?_
    by_cases he : q / 4503599627370496 - 1 = 1022
    · have hq : q % 4503599627370496 = 0 := by omega
      rw [he, hq]
      omega
    · calc 4503599627370496 + q % 4503599627370496 ≤ 4503599627370496 * 2 ^ 1 := by omega
        _ ≤ _ := Nat.mul_le_mul_left _ (Nat.pow_le_pow_right (by omega) (by omega))

/-- The quotient of two whole numbers, the second not 0 and not below the first. -/
theorem div_fl (m n : Nat) (h0 : n ≠ 0) (hmn : m ≤ n) (hn : n < 2 ^ 53) : ∃ q, double.div (fl m) (fl n) = some q ∧ q ≤ one ∧ (m = n → q = one) := by
  obtain ⟨i, hi, hik, hm⟩ := read_fl m (by omega)
  obtain ⟨j, hj, hjk, hd⟩ := read_fl n hn
  have hj52 : j ≤ 52 := by have := hjk h0; omega
  have hN0 : n * 2 ^ j ≠ 0 := Nat.ne_of_gt (Nat.mul_pos (Nat.pos_of_ne_zero h0) (pow_pos j))
  have hNl : (n * 2 ^ j).log2 = 52 := by
    rw [log2_scaled n j h0, hjk h0]
    have := log2_lt53 h0 hn
    omega
  have hMl : (m * 2 ^ i).log2 ≤ 52 := by
    by_cases hm0 : m = 0
    · subst hm0; rw [Nat.zero_mul]; decide
    · rw [log2_scaled m i hm0, hik hm0]
      have := log2_lt53 hm0 (by omega)
      omega
  unfold Format.div
  rw [hm, hd]
  unfold Datum.quotient
  simp only [if_neg hN0, Option.map_some]
  refine ⟨_, rfl, ?_⟩
  unfold Format.write
  simp only
  have ef : double.fractionBits = 52 := rfl
  rw [ef]
  obtain ⟨more, hmore⟩ : ∃ x, x = 52 + 2 + (n * 2 ^ j).log2 - (m * 2 ^ i).log2 := ⟨_, rfl⟩
  simp only [← hmore]
  have hmo : 54 ≤ more := by omega
  have hT : (m * 2 ^ i) <<< more = m * 2 ^ (i + more) := by rw [Nat.shiftLeft_eq, Nat.mul_assoc, ← Nat.pow_add]
  rw [hT]
  have hplace : -(i : Int) - -(j : Int) - (more : Int) - 1 = -((i + more + 1 - j : Nat) : Int) := by omega
  rw [hplace]
  have hx : (false ^^ false) = false := rfl
  rw [hx]
  have hsplit : 2 ^ (i + more) = 2 ^ (i + more - j) * 2 ^ j := by rw [← Nat.pow_add, show i + more - j + j = i + more from by omega]
  have hle : m * 2 ^ (i + more) ≤ 2 ^ (i + more - j) * (n * 2 ^ j) := by
    rw [hsplit, ← Nat.mul_assoc, ← Nat.mul_assoc, Nat.mul_comm m, Nat.mul_assoc, Nat.mul_assoc]
    exact Nat.mul_le_mul_left _ (Nat.mul_le_mul_right _ hmn)
  have hp2 : 2 ^ (i + more + 1 - j) = 2 * 2 ^ (i + more - j) := by rw [show i + more + 1 - j = (i + more - j) + 1 from by omega, Nat.pow_succ]; omega
  obtain ⟨dv, hdv⟩ : ∃ x, x = m * 2 ^ (i + more) / (n * 2 ^ j) := ⟨_, rfl⟩
  obtain ⟨rm, hrm⟩ : ∃ x, x = m * 2 ^ (i + more) % (n * 2 ^ j) := ⟨_, rfl⟩
  simp only [← hdv, ← hrm]
  have hdm := Nat.div_add_mod (m * 2 ^ (i + more)) (n * 2 ^ j)
  rw [← hdv, ← hrm] at hdm
  have hdle : dv ≤ 2 ^ (i + more - j) := by
    rw [hdv]
    exact Nat.div_le_of_le_mul (by rw [Nat.mul_comm (n * 2 ^ j)]; exact hle)
  have hmag : 2 * dv + (rm != 0).toNat ≤ 2 ^ (i + more + 1 - j) := by
    rw [hp2]
    by_cases hr : rm = 0
    · subst hr; simp; omega
    · have h1 : (rm != 0).toNat ≤ 1 := by cases (rm != 0) <;> simp
      have h2 : dv < 2 ^ (i + more - j) := by
        rcases Nat.lt_or_ge dv (2 ^ (i + more - j)) with h | h
        · exact h
        · exfalso
          have h3 : dv = 2 ^ (i + more - j) := by omega
          rw [h3, Nat.mul_comm] at hdm
          omega
      omega
  obtain ⟨r1, r2⟩ := nearest_le _ _ hmag
  refine ⟨r1, fun he => r2 ?_⟩
  have hij : i = j := by
    have hm0 : m ≠ 0 := by omega
    rw [hik hm0, hjk h0, he]
  have e1 : m * 2 ^ (i + more) = 2 ^ (i + more - j) * (n * 2 ^ j) := by
    rw [hsplit, he, ← Nat.mul_assoc, ← Nat.mul_assoc, Nat.mul_comm n]
  have e2 : rm = 0 := by rw [hrm, e1, Nat.mul_mod_left]
  have e3 : dv = 2 ^ (i + more - j) := by rw [hdv, e1, Nat.mul_div_cancel _ (Nat.pos_of_ne_zero hN0)]
  rw [e2, e3, hp2]
  simp
end Go.Proofs.Ytpmhncblhdddhaa
