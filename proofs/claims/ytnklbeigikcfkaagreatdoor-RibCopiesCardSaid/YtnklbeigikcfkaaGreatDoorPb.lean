/- Prefixes as blocks of numbers: halves, nests, orders. Plain laws. -/
import Derived.Test.YtnklbeigikcfkaaGreatDoorPn
import Derived.Test.YtnklbeigikcfkaaGreatDoorDy
namespace Go.Proofs.YtnklbeigikcfkaaGreatDoor

theorem ltA_iff {a b : Ad} : ltA a b = true ↔ validA a = true ∧ validA b = true ∧ ((a.six = false ∧ b.six = true) ∨ (a.six = b.six ∧ (a.hi < b.hi ∨ (a.hi = b.hi ∧ a.lo < b.lo)))) := by
  obtain ⟨s1, h1, l1⟩ := a
  obtain ⟨s2, h2, l2⟩ := b
  unfold ltA
  simp only [Ad.mk.injEq]
  by_cases e0 : validA ⟨s1, h1, l1⟩ = false
  · rw [if_pos (.inl e0), e0]; simp
  · by_cases e00 : validA ⟨s2, h2, l2⟩ = false
    · rw [if_pos (.inr (.inl e00)), e00]; simp
    · rw [Bool.not_eq_false] at e0 e00
      by_cases e1 : s1 = s2
      · subst e1
        by_cases e2 : h1 = h2
        · subst e2
          by_cases e3 : l1 = l2
          · subst e3
            rw [if_pos (.inr (.inr ⟨rfl, rfl, rfl⟩))]
            simp
          · rw [if_neg (by rw [e0, e00]; simp [e3]), if_neg (by simp), if_neg (by simp), decide_eq_true_eq]
            simp [e0, e00]
        · rw [if_neg (by rw [e0, e00]; simp [e2]), if_neg (by simp), if_pos e2, decide_eq_true_eq]
          simp [e0, e00, e2]
      · rw [if_neg (by rw [e0, e00]; simp [e1]), if_pos e1]
        cases s1 <;> cases s2 <;> simp_all
theorem ltA_irrefl (a : Ad) : ltA a a = false := by simp [ltA]
theorem ltA_trans {a b c : Ad} (h : ltA a b = true) (k : ltA b c = true) : ltA a c = true := by
  rw [ltA_iff] at *
  obtain ⟨h1, h2, h3⟩ := h
  obtain ⟨k1, k2, k3⟩ := k
  refine ⟨h1, k2, ?_⟩
  rcases h3 with ⟨h3, h4⟩ | ⟨h3, h4⟩ <;> rcases k3 with ⟨k3, k4⟩ | ⟨k3, k4⟩
  · rw [h4] at k3; cases k3
  · exact .inl ⟨h3, k3 ▸ h4⟩
  · exact .inl ⟨h3.trans k3, k4⟩
  · refine .inr ⟨h3.trans k3, ?_⟩
    omega
theorem ltA_total {a b : Ad} (ha : validA a = true) (hb : validA b = true) (hne : a ≠ b) : ltA a b = true ∨ ltA b a = true := by
  rw [ltA_iff, ltA_iff]
  obtain ⟨s1, h1, l1⟩ := a
  obtain ⟨s2, h2, l2⟩ := b
  simp only [ne_eq, Ad.mk.injEq] at *
  cases s1 <;> cases s2 <;> simp_all <;> omega
theorem ltA_asymm {a b : Ad} (h : ltA a b = true) : ltA b a = false := by
  cases h2 : ltA b a with
  | false => rfl
  | true =>
    have := ltA_trans h h2
    rw [ltA_irrefl] at this
    cases this
/-- Of one family: by their numbers. -/
theorem ltA_num {a b : Ad} (ha : a.ok) (hb : b.ok) (va : validA a = true) (vb : validA b = true) (hs : a.six = b.six) : ltA a b = true ↔ num a < num b := by
  rw [ltA_iff]
  obtain ⟨s1, h1, l1⟩ := a
  obtain ⟨s2, h2, l2⟩ := b
  unfold Ad.ok at ha hb
  simp only at hs ha hb
  subst hs
  unfold num
  cases s1 with
  | true => simp [va, vb]; omega
  | false => simp [validA] at va vb ⊢; omega
section
variable {p q r : Px} {a : Ad}
theorem coversP_iff (hp : p.ad.ok) (hq : q.ad.ok) : coversP p q = true ↔ validP p = true ∧ validP q = true ∧ p.bits ≤ q.bits ∧ p.ad.six = q.ad.six ∧ num p.ad ≤ num q.ad ∧ num q.ad < num p.ad + 2 ^ p.j := by
  unfold coversP
  rw [Bool.and_eq_true, Bool.and_eq_true, decide_eq_true_eq, holdsP_iff hp hq]
  constructor
  · rintro ⟨⟨h1, h2⟩, h3, _, h5, h6⟩
    exact ⟨h3, h1, h2, h5, h6⟩
  · rintro ⟨h1, h2, h3, h4, h5⟩
    exact ⟨⟨h2, h3⟩, h1, ((validP_iff hq).1 h2).1, h4, h5⟩
theorem j_le (hs : p.ad.six = q.ad.six) (hb : p.bits ≤ q.bits) (_h0 : 0 ≤ p.bits) : q.j ≤ p.j := by
  unfold Px.j widthA
  rw [hs]
  omega
theorem covers_in (hp : p.ad.ok) (hq : q.ad.ok) (h : coversP p q = true) : In (num p.ad) p.j (num q.ad) q.j := by
  obtain ⟨h1, h2, h3, h4, h5, h6⟩ := (coversP_iff hp hq).1 h
  obtain ⟨_, k2, _, k4⟩ := (validP_iff hp).1 h1
  obtain ⟨_, _, _, l4⟩ := (validP_iff hq).1 h2
  rcases dy_cases k4 l4 (j_le h4 h3 k2) with h7 | h7
  · exact h7
  · exfalso
    have := p2 p.j
    have := p2 q.j
    unfold Dis at h7
    omega
/-- One more bit: 0, 1. -/
def lowP (p : Px) : Px := ⟨p.ad, p.bits + 1⟩
def highA (p : Px) : Ad :=
  if p.ad.six = false then ⟨false, p.ad.hi, p.ad.lo + 2 ^ (31 - p.bits.toNat)⟩ else if p.bits < 64 then ⟨true, p.ad.hi + 2 ^ (63 - p.bits.toNat), p.ad.lo⟩ else ⟨true, p.ad.hi, p.ad.lo + 2 ^ (127 - p.bits.toNat)⟩
def highP (p : Px) : Px := ⟨highA p, p.bits + 1⟩
def fullP (p : Px) : Bool := !validP p || decide (p.bits = widthA p.ad)
theorem high_six (p : Px) : (highA p).six = p.ad.six := by
  unfold highA
  cases h : p.ad.six with
  | false => simp
  | true => by_cases h2 : p.bits < 64 <;> simp [h2]
theorem half_num (hv : validP p = true) (hp : p.ad.ok) (hf : p.bits ≠ widthA p.ad) : num (highA p) = num p.ad + 2 ^ (p.j - 1) ∧ (highA p).ok ∧ validA (highA p) = true ∧ 1 ≤ p.j ∧ num p.ad + 2 ^ p.j ≤ 2 ^ widthA p.ad := by
  obtain ⟨h1, h2, h3, h4⟩ := (validP_iff hp).1 hv
  have hlt := num_lt hp h1
  have hj : 1 ≤ p.j := by unfold Px.j; omega
  have hjw : p.j ≤ widthA p.ad := by unfold Px.j; omega
  have hle : num p.ad + 2 ^ p.j ≤ 2 ^ widthA p.ad := by
    obtain ⟨u, hu⟩ := h4
    obtain ⟨v, hv⟩ := Nat.pow_dvd_pow 2 hjw
    rw [hu, hv] at hlt ⊢
    have h5 : u < v := Nat.lt_of_mul_lt_mul_left hlt
    have := Nat.mul_le_mul_left (2 ^ p.j) (show u + 1 ≤ v from h5)
    rw [Nat.mul_add, Nat.mul_one] at this
    exact this
  have hs : 2 ^ p.j = 2 * 2 ^ (p.j - 1) := by
    have := p2s (p.j - 1)
    rwa [show p.j - 1 + 1 = p.j by omega] at this
  have hpp := p2 (p.j - 1)
  obtain ⟨o1, o2⟩ := hp
  cases hsx : p.ad.six with
  | false =>
    have hw : widthA p.ad = 32 := by unfold widthA; rw [hsx]; rfl
    have hnum : num p.ad = p.ad.lo := by unfold num; rw [hsx]; rfl
    have hh : highA p = ⟨false, p.ad.hi, p.ad.lo + 2 ^ (31 - p.bits.toNat)⟩ := by unfold highA; rw [if_pos hsx]
    have e : 31 - p.bits.toNat = p.j - 1 := by unfold Px.j; omega
    have e32 : (2 : Nat) ^ 32 = 4294967296 := by decide
    have h1' : p.ad.hi = 0 := by
      unfold validA at h1; rw [hsx] at h1; simp at h1; exact h1.1
    rw [hw] at hle ⊢
    rw [hnum] at hle ⊢
    rw [hh, e]
    refine ⟨rfl, ⟨o1, ?_⟩, ?_, hj, hle⟩
    · show p.ad.lo + 2 ^ (p.j - 1) < 18446744073709551616; omega
    · unfold validA; simp; exact ⟨h1', by omega⟩
  | true =>
    have hw : widthA p.ad = 128 := by unfold widthA; rw [hsx]; rfl
    have hnum : num p.ad = p.ad.hi * 18446744073709551616 + p.ad.lo := by unfold num; rw [hsx]; rfl
    have e128 : (2 : Nat) ^ 128 = 340282366920938463463374607431768211456 := by decide
    rw [hw] at hle h3 ⊢
    rw [hnum] at hle h4 ⊢
    by_cases hb : p.bits < 64
    · have hh : highA p = ⟨true, p.ad.hi + 2 ^ (63 - p.bits.toNat), p.ad.lo⟩ := by unfold highA; rw [if_neg (by rw [hsx]; simp), if_pos hb]
      have e : p.j - 1 = (63 - p.bits.toNat) + 64 := by unfold Px.j; omega
      have e2 : 2 ^ (p.j - 1) = 2 ^ (63 - p.bits.toNat) * 18446744073709551616 := by rw [e, Nat.pow_add, p64]
      rw [hh]
      refine ⟨?_, ⟨?_, o2⟩, rfl, hj, hle⟩
      · unfold num; simp only [if_true]; omega
      · show p.ad.hi + 2 ^ (63 - p.bits.toNat) < 18446744073709551616; omega
    · have hh : highA p = ⟨true, p.ad.hi, p.ad.lo + 2 ^ (127 - p.bits.toNat)⟩ := by unfold highA; rw [if_neg (by rw [hsx]; simp), if_neg hb]
      have e : 127 - p.bits.toNat = p.j - 1 := by unfold Px.j; omega
      have hj64 : p.j ≤ 64 := by unfold Px.j; omega
      rw [hh, e]
      -- the low half has room
      have hd : 2 ^ p.j ∣ p.ad.lo := by
        have h5 : 2 ^ p.j ∣ p.ad.hi * 18446744073709551616 := Nat.dvd_trans (Nat.dvd_trans (Nat.pow_dvd_pow 2 hj64) (by rw [← p64]; exact Nat.dvd_refl _)) (Nat.dvd_mul_left _ _)
        exact (Nat.dvd_add_right h5).1 h4
      have hlo : p.ad.lo + 2 ^ p.j ≤ 18446744073709551616 := by
        obtain ⟨u, hu⟩ := hd
        obtain ⟨v, hv⟩ := Nat.pow_dvd_pow 2 hj64
        rw [← p64] at hv
        rw [hu, hv] at o2 ⊢
        have h5 : u < v := Nat.lt_of_mul_lt_mul_left o2
        have := Nat.mul_le_mul_left (2 ^ p.j) (show u + 1 ≤ v from h5)
        rw [Nat.mul_add, Nat.mul_one] at this
        exact this
      refine ⟨?_, ⟨o1, ?_⟩, rfl, hj, hle⟩
      · unfold num; simp only [if_true]; omega
      · show p.ad.lo + 2 ^ (p.j - 1) < 18446744073709551616; omega
theorem low_valid (hv : validP p = true) (hp : p.ad.ok) (hf : p.bits ≠ widthA p.ad) : validP (lowP p) = true ∧ (lowP p).j = p.j - 1 := by
  obtain ⟨h1, h2, h3, h4⟩ := (validP_iff hp).1 hv
  have hj : (lowP p).j = p.j - 1 := by unfold Px.j lowP; simp; omega
  refine ⟨(validP_iff (p := lowP p) hp).2 ⟨h1, ?_, ?_, ?_⟩, hj⟩
  · show 0 ≤ p.bits + 1; omega
  · show p.bits + 1 ≤ widthA p.ad; omega
  · rw [hj]; exact Nat.dvd_trans (Nat.pow_dvd_pow 2 (Nat.sub_le _ _)) h4
theorem high_valid (hv : validP p = true) (hp : p.ad.ok) (hf : p.bits ≠ widthA p.ad) : validP (highP p) = true ∧ (highP p).j = p.j - 1 := by
  obtain ⟨h1, h2, h3, h4⟩ := (validP_iff hp).1 hv
  obtain ⟨n1, n2, n3, n4, n5⟩ := half_num hv hp hf
  have hw : widthA (highA p) = widthA p.ad := by unfold widthA; rw [high_six]
  have hj : (highP p).j = p.j - 1 := by unfold Px.j highP; simp only [hw]; omega
  refine ⟨(validP_iff (p := highP p) n2).2 ⟨n3, ?_, ?_, ?_⟩, hj⟩
  · show 0 ≤ p.bits + 1; omega
  · show p.bits + 1 ≤ widthA (highA p); rw [hw]; omega
  · rw [hj]
    show 2 ^ (p.j - 1) ∣ num (highA p)
    rw [n1]
    exact (Nat.dvd_add_right (Nat.dvd_trans (Nat.pow_dvd_pow 2 (Nat.sub_le _ _)) h4)).2 (Nat.dvd_refl _)
/-- The law of halves. -/
theorem halves_law (hv : validP p = true) (hp : p.ad.ok) (hf : p.bits ≠ widthA p.ad) (ha : a.ok) :
    (holdsP p a = (holdsP (lowP p) a != holdsP (highP p) a)) ∧ (holdsP (lowP p) a && holdsP (highP p) a) = false ∧ coversP p (lowP p) = true ∧ coversP p (highP p) = true ∧ coversP (lowP p) (highP p) = false ∧ coversP (highP p) (lowP p) = false ∧ coversP (lowP p) p = false ∧ ltP p (lowP p) = true ∧ ltP (lowP p) (highP p) = true := by
  obtain ⟨n1, n2, n3, n4, n5⟩ := half_num hv hp hf
  obtain ⟨l1, l2⟩ := low_valid hv hp hf
  obtain ⟨g1, g2⟩ := high_valid hv hp hf
  have h1 := ((validP_iff hp).1 hv).1
  have hs : 2 ^ p.j = 2 * 2 ^ (p.j - 1) := by
    have := p2s (p.j - 1)
    rwa [show p.j - 1 + 1 = p.j by omega] at this
  have hpp := p2 (p.j - 1)
  have e1 := holdsP_iff hp ha
  have e2 := holdsP_iff (p := lowP p) (show (lowP p).ad.ok from hp) ha
  have e3 := holdsP_iff (p := highP p) (show (highP p).ad.ok from n2) ha
  have c1 := coversP_iff (p := p) (q := lowP p) hp hp
  have c2 := coversP_iff (p := p) (q := highP p) hp n2
  have c3 := coversP_iff (p := lowP p) (q := highP p) hp n2
  have c4 := coversP_iff (p := highP p) (q := lowP p) n2 hp
  have c5 := coversP_iff (p := lowP p) (q := p) hp hp
  have al : (lowP p).ad = p.ad := rfl
  have ah : (highP p).ad = highA p := rfl
  have bl : (lowP p).bits = p.bits + 1 := rfl
  have bh : (highP p).bits = p.bits + 1 := rfl
  simp only [hv, l1, g1, al, ah, bl, bh, l2, g2, n1, high_six, true_and] at e1 e2 e3 c1 c2 c3 c4 c5
  have hlt : ltA p.ad (highA p) = true := (ltA_num hp n2 h1 n3 (high_six p).symm).2 (by rw [n1]; omega)
  refine ⟨?_, ?_, c1.2 (by omega), c2.2 (by omega), ?_, ?_, ?_, ?_, ?_⟩
  · rw [Bool.eq_iff_iff, e1]
    have e4 : (holdsP (lowP p) a = holdsP (highP p) a) ↔ ((holdsP (lowP p) a = true) ↔ (holdsP (highP p) a = true)) := Bool.eq_iff_iff
    rw [bne_iff_ne, ne_eq, e4, e2, e3]
    by_cases hx : validA a = true ∧ p.ad.six = a.six
    · simp only [hx.1, hx.2, true_and]
      omega
    · constructor
      · rintro ⟨k1, k2, _⟩
        exact absurd ⟨k1, k2⟩ hx
      · intro k
        exfalso
        refine k ⟨?_, ?_⟩
        · rintro ⟨k1, k2, _⟩; exact absurd ⟨k1, k2⟩ hx
        · rintro ⟨k1, k2, _⟩; exact absurd ⟨k1, k2⟩ hx
  · rw [Bool.eq_false_iff, ne_eq, Bool.and_eq_true, e2, e3]
    omega
  · rw [Bool.eq_false_iff, ne_eq, c3]; omega
  · rw [Bool.eq_false_iff, ne_eq, c4]; omega
  · rw [Bool.eq_false_iff, ne_eq, c5]; omega
  · unfold ltP
    rw [hv, l1, al, bl]
    simp
    omega
  · unfold ltP
    rw [l1, g1, al, ah, hlt]
    rfl
/-- The law of nests. -/
theorem nests_law (hp : p.ad.ok) (hq : q.ad.ok) (ha : a.ok) :
    (coversP p q = true → holdsP q a = true → holdsP p a = true) ∧ (holdsP p a = true → holdsP q a = true → coversP p q = true ∨ coversP q p = true) ∧
    ((coversP p q = true ∧ coversP q p = true) ↔ (p = q ∧ validP p = true)) := by
  refine ⟨fun h k => ?_, fun h k => ?_, ?_⟩
  · have hin := covers_in hp hq h
    obtain ⟨h1, h2, h3, h4, h5, h6⟩ := (coversP_iff hp hq).1 h
    obtain ⟨k1, k2, k3, k4, k5⟩ := (holdsP_iff hq ha).1 k
    refine (holdsP_iff hp ha).2 ⟨h1, k2, h4.trans k3, ?_⟩
    unfold In at hin
    omega
  · obtain ⟨h1, h2, h3, h4, h5⟩ := (holdsP_iff hp ha).1 h
    obtain ⟨k1, k2, k3, k4, k5⟩ := (holdsP_iff hq ha).1 k
    have hs : p.ad.six = q.ad.six := h3.trans k3.symm
    obtain ⟨_, p0, _, pd⟩ := (validP_iff hp).1 h1
    obtain ⟨_, q0, _, qd⟩ := (validP_iff hq).1 k1
    have := p2 p.j
    have := p2 q.j
    rcases Int.le_total p.bits q.bits with hb | hb
    · left
      rw [coversP_iff hp hq]
      refine ⟨h1, k1, hb, hs, ?_⟩
      rcases dy_cases pd qd (j_le hs hb p0) with h7 | h7
      · unfold In at h7; omega
      · unfold Dis at h7; omega
    · right
      rw [coversP_iff hq hp]
      refine ⟨k1, h1, hb, hs.symm, ?_⟩
      rcases dy_cases qd pd (j_le hs.symm hb q0) with h7 | h7
      · unfold In at h7; omega
      · unfold Dis at h7; omega
  · constructor
    · rintro ⟨h, k⟩
      obtain ⟨h1, h2, h3, h4, h5, h6⟩ := (coversP_iff hp hq).1 h
      obtain ⟨k1, k2, k3, k4, k5, k6⟩ := (coversP_iff hq hp).1 k
      refine ⟨?_, h1⟩
      have e := num_inj hp hq ((validP_iff hp).1 h1).1 ((validP_iff hq).1 h2).1 h4 (by omega)
      obtain ⟨a1, b1⟩ := p
      obtain ⟨a2, b2⟩ := q
      simp only at e h3 k3
      rw [Px.mk.injEq]
      exact ⟨e, by omega⟩
    · rintro ⟨rfl, hv⟩
      have := (coversP_iff hp hp).2 ⟨hv, hv, Int.le_refl _, rfl, Nat.le_refl _, by have := p2 p.j; omega⟩
      exact ⟨this, this⟩
theorem ltP_iff : ltP p q = true ↔ validP p = true ∧ validP q = true ∧ (ltA p.ad q.ad = true ∨ (p.ad = q.ad ∧ p.bits < q.bits)) := by
  unfold ltP
  simp only [Bool.and_eq_true, Bool.or_eq_true, decide_eq_true_eq, and_assoc]
theorem ltP_irrefl (p : Px) : ltP p p = false := by
  rw [Bool.eq_false_iff, ne_eq, ltP_iff, ltA_irrefl]
  simp
theorem ltP_trans (h : ltP p q = true) (k : ltP q r = true) : ltP p r = true := by
  rw [ltP_iff] at *
  obtain ⟨h1, h2, h3⟩ := h
  obtain ⟨k1, k2, k3⟩ := k
  refine ⟨h1, k2, ?_⟩
  rcases h3 with h3 | ⟨h3, h4⟩ <;> rcases k3 with k3 | ⟨k3, k4⟩
  · exact .inl (ltA_trans h3 k3)
  · exact .inl (k3 ▸ h3)
  · exact .inl (h3 ▸ k3)
  · exact .inr ⟨h3.trans k3, by omega⟩
theorem ltP_total (hp : validP p = true) (hq : validP q = true) (hne : p ≠ q) : ltP p q = true ∨ ltP q p = true := by
  rw [ltP_iff, ltP_iff]
  have va : validA p.ad = true := by unfold validP at hp; simp only [Bool.and_eq_true] at hp; exact hp.1.1.1
  have vb : validA q.ad = true := by unfold validP at hq; simp only [Bool.and_eq_true] at hq; exact hq.1.1.1
  by_cases e : p.ad = q.ad
  · have : p.bits ≠ q.bits := fun e2 => hne (by cases p; cases q; simp_all)
    rcases Int.lt_or_gt_of_ne this with h | h
    · exact .inl ⟨hp, hq, .inr ⟨e, h⟩⟩
    · exact .inr ⟨hq, hp, .inr ⟨e.symm, h⟩⟩
  · rcases ltA_total va vb e with h | h
    · exact .inl ⟨hp, hq, .inl h⟩
    · exact .inr ⟨hq, hp, .inl h⟩
theorem covers_not_lt (hp : p.ad.ok) (hq : q.ad.ok) (h : coversP p q = true) : ltP q p = false := by
  rw [Bool.eq_false_iff, ne_eq, ltP_iff]
  obtain ⟨h1, h2, h3, h4, h5, h6⟩ := (coversP_iff hp hq).1 h
  rintro ⟨_, _, k | ⟨k1, k2⟩⟩
  · rw [ltA_num hq hp ((validP_iff hq).1 h2).1 ((validP_iff hp).1 h1).1 h4.symm] at k
    omega
  · omega
end
end Go.Proofs.YtnklbeigikcfkaaGreatDoor
