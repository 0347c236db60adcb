/- Addresses and prefixes as numbers: plain laws. -/
namespace Go.Proofs.YtnklbeigikcfkaaGreatDoor

/-- An address: its family, its two halves. -/
structure Ad where
  six : Bool
  hi : Nat
  lo : Nat
deriving DecidableEq
def Ad.ok (a : Ad) : Prop := a.hi < 18446744073709551616 ∧ a.lo < 18446744073709551616
def validA (a : Ad) : Bool := a.six || (decide (a.hi = 0) && decide (a.lo < 4294967296))
def ltA (a b : Ad) : Bool :=
  if validA a = false ∨ validA b = false ∨ a = b then false else if a.six ≠ b.six then b.six else if a.hi ≠ b.hi then decide (a.hi < b.hi) else decide (a.lo < b.lo)
def widthA (a : Ad) : Nat := if a.six = true then 128 else 32
/-- The number that an address is. -/
def num (a : Ad) : Nat := if a.six = true then a.hi * 18446744073709551616 + a.lo else a.lo
theorem num_lt {a : Ad} (ho : a.ok) (hv : validA a = true) : num a < 2 ^ widthA a := by
  obtain ⟨h1, h2⟩ := ho
  unfold num widthA validA at *
  cases hs : a.six with
  | true => rw [if_pos rfl, if_pos rfl]; have : (2 : Nat) ^ 128 = 340282366920938463463374607431768211456 := by decide
            omega
  | false => rw [hs] at hv; simp at hv; rw [if_neg (by simp), if_neg (by simp)]; exact hv.2
theorem num_inj {a b : Ad} (ha : a.ok) (hb : b.ok) (va : validA a = true) (vb : validA b = true) (hs : a.six = b.six) (h : num a = num b) : a = b := by
  obtain ⟨s1, h1, l1⟩ := a
  obtain ⟨s2, h2, l2⟩ := b
  unfold num validA Ad.ok at *
  simp only at *
  subst hs
  cases s1 with
  | true => simp at h; rw [Ad.mk.injEq]; exact ⟨rfl, by omega, by omega⟩
  | false => simp at h va vb; rw [Ad.mk.injEq]; exact ⟨rfl, by omega, by omega⟩
/-- A number of so many bits with all but its first ones 0. -/
def first (n : Nat) (many : Int) (all : Nat) : Nat := n / 2 ^ (all - (min (max many 0) all).toNat) * 2 ^ (all - (min (max many 0) all).toNat)
def cutA (a : Ad) (many : Int) : Ad := if a.six = true then ⟨true, first a.hi many 64, first a.lo (many - 64) 64⟩ else ⟨false, 0, first a.lo many 32⟩
theorem first_nat (n m all : Nat) (h : m ≤ all) : first n (m : Int) all = n / 2 ^ (all - m) * 2 ^ (all - m) := by
  unfold first
  rw [show (min (max (m : Int) 0) all).toNat = m by omega]
theorem first_le (n : Nat) (m : Int) (all : Nat) : first n m all ≤ n := Nat.div_mul_le_self _ _
theorem cut_ok {a : Ad} (ho : a.ok) (m : Int) : (cutA a m).ok := by
  obtain ⟨h1, h2⟩ := ho
  have f1 := first_le a.hi m 64
  have f2 := first_le a.lo (m - 64) 64
  have f3 := first_le a.lo m 32
  unfold cutA Ad.ok
  cases a.six <;> simp <;> omega
theorem cut_six (a : Ad) (m : Int) : (cutA a m).six = a.six := by unfold cutA; cases h : a.six <;> simp
theorem cut_valid {a : Ad} (hv : validA a = true) (m : Int) : validA (cutA a m) = true := by
  have f3 := first_le a.lo m 32
  unfold cutA validA at *
  cases h : a.six with
  | true => simp
  | false => rw [h] at hv; simp at hv ⊢; omega
theorem p64 : (18446744073709551616 : Nat) = 2 ^ 64 := by decide
theorem cut_num {a : Ad} (ho : a.ok) {m : Nat} (hm : m ≤ widthA a) : num (cutA a m) = num a / 2 ^ (widthA a - m) * 2 ^ (widthA a - m) := by
  obtain ⟨h1, h2⟩ := ho
  unfold cutA num widthA at *
  cases hs : a.six with
  | false =>
    rw [hs] at hm
    simp only [Bool.false_eq_true, if_false] at hm ⊢
    exact first_nat _ _ _ hm
  | true =>
    rw [hs] at hm
    simp only [if_true] at hm ⊢
    rcases Nat.lt_or_ge 64 m with h | h
    · rw [show ((m : Int) - 64) = ((m - 64 : Nat) : Int) by omega, first_nat a.lo _ _ (by omega)]
      have e1 : first a.hi (m : Int) 64 = a.hi := by
        unfold first
        rw [show (64 - (min (max (m : Int) 0) ((64 : Nat) : Int)).toNat) = 0 by omega]; simp
      rw [e1, show 64 - (m - 64) = 128 - m by omega]
      obtain ⟨q, hq⟩ : ∃ q, 2 ^ 64 = 2 ^ (128 - m) * q := ⟨2 ^ (64 - (128 - m)), by rw [← Nat.pow_add]; congr 1; omega⟩
      have hp : 0 < 2 ^ (128 - m) := Nat.two_pow_pos _
      rw [p64, hq, show a.hi * (2 ^ (128 - m) * q) = 2 ^ (128 - m) * (a.hi * q) by rw [← Nat.mul_assoc, Nat.mul_comm a.hi, Nat.mul_assoc], Nat.mul_add_div hp, Nat.add_mul, Nat.mul_comm (a.hi * q)]
    · rw [first_nat a.hi m 64 h]
      have e1 : first a.lo ((m : Int) - 64) 64 = 0 := by
        unfold first
        rw [show (64 - (min (max ((m : Int) - 64) 0) ((64 : Nat) : Int)).toNat) = 64 by omega, Nat.div_eq_of_lt (by rw [← p64]; exact h2), Nat.zero_mul]
      rw [e1, Nat.add_zero]
      have e2 : 2 ^ (128 - m) = 2 ^ 64 * 2 ^ (64 - m) := by rw [← Nat.pow_add]; congr 1; omega
      have e3 : a.lo / 2 ^ 64 = 0 := Nat.div_eq_of_lt (by rw [← p64]; exact h2)
      rw [e2, p64, ← Nat.div_div_eq_div_mul, Nat.mul_comm a.hi, Nat.mul_add_div (Nat.two_pow_pos 64), e3, Nat.add_zero, Nat.mul_assoc, Nat.mul_comm (2 ^ 64) (2 ^ (64 - m))]
/-- A prefix. -/
structure Px where
  ad : Ad
  bits : Int
deriving DecidableEq
def validP (p : Px) : Bool := validA p.ad && decide (0 ≤ p.bits) && decide (p.bits ≤ widthA p.ad) && decide (cutA p.ad p.bits = p.ad)
def holdsP (p : Px) (a : Ad) : Bool := validP p && validA a && decide (p.ad.six = a.six) && decide (cutA a p.bits = p.ad)
def coversP (p q : Px) : Bool := validP q && decide (p.bits ≤ q.bits) && holdsP p q.ad
def ltP (p q : Px) : Bool := validP p && validP q && (ltA p.ad q.ad || (decide (p.ad = q.ad) && decide (p.bits < q.bits)))
def bitA (a : Ad) (i : Int) : Nat :=
  if validA a = false ∨ i < 0 ∨ (widthA a : Int) ≤ i then 0 else if a.six = false then a.lo / 2 ^ (31 - i.toNat) % 2 else if i < 64 then a.hi / 2 ^ (63 - i.toNat) % 2 else a.lo / 2 ^ (127 - i.toNat) % 2
/-- How many bits are free in it. -/
def Px.j (p : Px) : Nat := widthA p.ad - p.bits.toNat
theorem validP_iff {p : Px} (ho : p.ad.ok) : validP p = true ↔ validA p.ad = true ∧ 0 ≤ p.bits ∧ p.bits ≤ widthA p.ad ∧ 2 ^ p.j ∣ num p.ad := by
  unfold validP
  simp only [Bool.and_eq_true, decide_eq_true_eq, and_assoc]
  constructor
  · rintro ⟨h1, h2, h3, h4⟩
    refine ⟨h1, h2, h3, ?_⟩
    have h5 := cut_num ho (m := p.bits.toNat) (by omega)
    rw [show ((p.bits.toNat : Nat) : Int) = p.bits by omega, h4] at h5
    exact ⟨_, h5.trans (Nat.mul_comm _ _)⟩
  · rintro ⟨h1, h2, h3, h4⟩
    refine ⟨h1, h2, h3, num_inj (cut_ok ho _) ho (cut_valid h1 _) h1 (cut_six _ _) ?_⟩
    have h5 := cut_num ho (m := p.bits.toNat) (by omega)
    rw [show ((p.bits.toNat : Nat) : Int) = p.bits by omega] at h5
    rw [h5]
    exact Nat.div_mul_cancel h4
theorem in_block {x y j : Nat} (hd : 2 ^ j ∣ x) : y / 2 ^ j * 2 ^ j = x ↔ x ≤ y ∧ y < x + 2 ^ j := by
  obtain ⟨u, rfl⟩ := hd
  have hp : 0 < 2 ^ j := Nat.two_pow_pos j
  have h1 := Nat.div_add_mod y (2 ^ j)
  have h2 := Nat.mod_lt y hp
  constructor
  · intro h
    rw [Nat.mul_comm (y / 2 ^ j)] at h
    omega
  · rintro ⟨h3, h4⟩
    have : y / 2 ^ j = u := by
      rw [Nat.div_eq_iff hp]
      rw [Nat.mul_comm] at h3 h4
      omega
    rw [this, Nat.mul_comm]
theorem holdsP_iff {p : Px} {a : Ad} (hp : p.ad.ok) (ha : a.ok) : holdsP p a = true ↔ validP p = true ∧ validA a = true ∧ p.ad.six = a.six ∧ num p.ad ≤ num a ∧ num a < num p.ad + 2 ^ p.j := by
  unfold holdsP
  simp only [Bool.and_eq_true, decide_eq_true_eq, and_assoc]
  constructor
  · rintro ⟨h1, h2, h3, h4⟩
    refine ⟨h1, h2, h3, ?_⟩
    obtain ⟨k1, k2, k3, k4⟩ := (validP_iff hp).1 h1
    have hw : widthA a = widthA p.ad := by unfold widthA; rw [h3]
    rw [← in_block k4]
    have h5 := cut_num ha (m := p.bits.toNat) (by omega)
    rw [show ((p.bits.toNat : Nat) : Int) = p.bits by omega, h4, hw] at h5
    exact h5.symm
  · rintro ⟨h1, h2, h3, h4⟩
    obtain ⟨k1, k2, k3, k4⟩ := (validP_iff hp).1 h1
    have hw : widthA a = widthA p.ad := by unfold widthA; rw [h3]
    refine ⟨h1, h2, h3, num_inj (cut_ok ha _) hp (cut_valid h2 _) k1 ((cut_six _ _).trans h3.symm) ?_⟩
    have h5 := cut_num ha (m := p.bits.toNat) (by omega)
    rw [show ((p.bits.toNat : Nat) : Int) = p.bits by omega, hw] at h5
    rw [h5]
    exact (in_block k4).2 h4
end Go.Proofs.YtnklbeigikcfkaaGreatDoor
