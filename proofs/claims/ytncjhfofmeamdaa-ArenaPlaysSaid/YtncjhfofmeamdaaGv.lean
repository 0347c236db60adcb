/- A block is given back: plain laws. -/
import Derived.Test.YtncjhfofmeamdaaDy
namespace Go.Proofs.Ytncjhfofmeamdaa

/-- The other half of the parent. -/
def bud (x j : Nat) : Nat := if x = par x j then x + 2 ^ j else x - 2 ^ j
theorem bud_ne {x j : Nat} (hx : Dy x j) : bud x j ≠ x := by
  have hp := p2 j
  unfold bud
  rcases par_half hx with h | h
  · rw [if_pos h]; omega
  · rw [if_neg (by omega)]; omega
theorem bud_dy {x j : Nat} (hx : Dy x j) : Dy (bud x j) j := by
  unfold bud
  split
  · exact (Nat.dvd_add_right hx).2 (Nat.dvd_refl _)
  · rename_i h
    rcases par_half hx with h1 | h1
    · exact absurd h1 h
    · rw [h1, Nat.add_sub_cancel]; exact (par_dy x j).le (Nat.le_succ j)
theorem par_bud {x j : Nat} (hx : Dy x j) : par (bud x j) j = par x j := by
  have hp := p2 j
  have hs := p2s j
  have hin : In (par x j) (j + 1) (bud x j) j := by
    have h1 := par_in hx
    unfold bud
    rcases par_half hx with h2 | h2
    · rw [if_pos h2]; unfold In at *; omega
    · rw [if_neg (by omega)]; unfold In at *; omega
  have h3 := sub_par (bud_dy hx) (par_dy x j) (Nat.lt_succ_self j) hin
  have := h3.1
  have := h3.2
  omega
theorem bud_dis {x j : Nat} (hx : Dy x j) : Dis x j (bud x j) j := by
  have hp := p2 j
  unfold bud Dis
  rcases par_half hx with h2 | h2
  · rw [if_pos h2]; omega
  · rw [if_neg (by omega)]; omega
theorem in_par {x j a o : Nat} (hx : Dy x j) (ha : Dy a o) (h : In (par x j) (j + 1) a o) : In x j a o ∨ In (bud x j) j a o ∨ (o = j + 1 ∧ a = par x j) := by
  have hle := h.le
  by_cases e : o = j + 1
  · subst e
    refine .inr (.inr ⟨rfl, ?_⟩)
    have := h.1
    have := h.2
    omega
  · rcases dy_cases hx ha (by omega) with h1 | h1
    · exact .inl h1
    · rcases dy_cases (bud_dy hx) ha (by omega) with h2 | h2
      · exact .inr (.inl h2)
      · exfalso
        have hp := p2 o
        have hs := p2s j
        unfold Dis at h1 h2
        unfold In at h
        unfold bud at h2
        rcases par_half hx with h3 | h3
        · rw [if_pos h3] at h2; omega
        · rw [if_neg (by have := p2 j; omega)] at h2; omega
theorem clr_par {T : Tk} {x j : Nat} (hx : Dy x j) (h1 : clr T x j) (h2 : clr T (bud x j) j) : clr T (par x j) (j + 1) := by
  intro p hp
  have a1 := h1 p hp
  have a2 := h2 p hp
  have hs := p2s j
  have ho := p2 p.2
  unfold Dis at *
  unfold bud at a2
  rcases par_half hx with h3 | h3
  · rw [if_pos h3] at a2; omega
  · rw [if_neg (by have := p2 j; omega)] at a2; omega

/-- While a block is given back: the hole (a, k) is clear; cur are the others that are free. -/
structure GInv (n : Nat) (T T' : Tk) (cur : Nat → List Nat) (a k : Nat) : Prop where
  dy : Dy a k
  kn : k ≤ n
  an : a + 2 ^ k ≤ 2 ^ n
  cl : clr T' a k
  cur_ : ∀ j, j ≤ n → (cur j).Pairwise (· < ·) ∧ ∀ x, x ∈ cur j ↔ Frb n T j x ∧ ¬ In a k x j
  had : ∃ p, p ∈ T ∧ In a k p.1 p.2
  sub : ∀ p, p ∈ T' → p ∈ T
  sup : ∀ p, p ∈ T → p ∈ T' ∨ In a k p.1 p.2

section
variable {n : Nat} {T T' : Tk} {cur : Nat → List Nat} {a k : Nat}
theorem GInv.start {f : Nat → List Nat} {a0 k0 : Nat} (hf : FreeIs n T f) (hT : TOk n T) (hm : (a0, k0) ∈ T) (hT' : ∀ p, p ∈ T' ↔ p ∈ T ∧ p ≠ (a0, k0)) : GInv n T T' f a0 k0 := by
  obtain ⟨h1, h2, h3⟩ := hT.dy _ hm
  refine ⟨h1, h2, h3, fun p hp => ?_, fun j hj => ⟨(hf j hj).1, fun x => ?_⟩, ⟨_, hm, In.refl _ _⟩, fun p hp => ((hT' p).1 hp).1, fun p hp => ?_⟩
  · obtain ⟨h4, h5⟩ := (hT' p).1 hp
    obtain ⟨i, hi, e1⟩ := List.mem_iff_getElem.1 hm
    obtain ⟨j, hj, e2⟩ := List.mem_iff_getElem.1 h4
    have hd := List.pairwise_iff_getElem.1 hT.dis
    rcases Nat.lt_trichotomy i j with h6 | h6 | h6
    · have := hd i j hi hj h6
      rw [e1, e2] at this
      exact this
    · subst h6
      exact absurd (e2.symm.trans e1) h5
    · have := hd j i hj hi h6
      rw [e1, e2] at this
      exact this.symm
  · rw [(hf j hj).2 x]
    exact ⟨fun h => ⟨h, fun hin => ((h.2.2.2.1 _ hm).symm.not_in) hin⟩, fun h => h.1⟩
  · by_cases e : p = (a0, k0)
    · subst e; exact .inr (In.refl _ _)
    · exact .inl ((hT' p).2 ⟨hp, e⟩)
/-- Whatever has the hole's parent is not clear, before. -/
theorem GInv.not_clr (h : GInv n T T' cur a k) {y i : Nat} (hin : In y i a k) : ¬ clr T y i := by
  obtain ⟨p, hp, hi⟩ := h.had
  intro hc
  exact (hc p hp).not_in (hin.trans hi)
theorem GInv.bud_iff (h : GInv n T T' cur a k) (hk : k < n) : bud a k ∈ cur k ↔ clr T' (bud a k) k := by
  have hpl := par_le h.dy hk h.an
  have hbp := par_in (bud_dy h.dy)
  rw [par_bud h.dy] at hbp
  rw [(h.cur_ k h.kn).2]
  constructor
  · rintro ⟨⟨_, _, _, hc, _⟩, _⟩ p hp
    exact hc p (h.sub p hp)
  · intro hc
    refine ⟨⟨h.kn, bud_dy h.dy, by have := hbp.2; omega, fun p hp => ?_, .inr ?_⟩, fun hin => (bud_dis h.dy).not_in hin⟩
    · rcases h.sup p hp with h1 | h1
      · exact hc p h1
      · exact ((bud_dis h.dy).symm.of_in h1)
    · rw [par_bud h.dy]
      exact h.not_clr (par_in h.dy)
theorem GInv.step (h : GInv n T T' cur a k) (hk : k < n) (hb : bud a k ∈ cur k) : GInv n T T' (fun j => if j = k then (cur k).filter (fun x => !decide (x = bud a k)) else cur j) (par a k) (k + 1) := by
  have hc := (h.bud_iff hk).1 hb
  have hbT := (((h.cur_ k h.kn).2 _).1 hb).1
  refine ⟨par_dy a k, hk, par_le h.dy hk h.an, clr_par h.dy h.cl hc, fun j hj => ⟨?_, fun x => ?_⟩, ?_, h.sub, fun p hp => (h.sup p hp).imp_right fun hi => (par_in h.dy).trans hi⟩
  · show (if j = k then _ else _ : List Nat).Pairwise _
    split
    · exact (h.cur_ k h.kn).1.filter _
    · exact (h.cur_ j hj).1
  · have hmem : x ∈ (if j = k then (cur k).filter (fun x => !decide (x = bud a k)) else cur j) ↔ x ∈ cur j ∧ ¬ (j = k ∧ x = bud a k) := by
      split
      · rename_i e; subst e; simp
      · rename_i e; simp [e]
    show x ∈ (if j = k then _ else _) ↔ _
    rw [hmem, (h.cur_ j hj).2]
    constructor
    · rintro ⟨⟨h1, h2⟩, h3⟩
      refine ⟨h1, fun hin => ?_⟩
      rcases in_par h.dy h1.2.1 hin with h4 | h4 | ⟨rfl, rfl⟩
      · exact h2 h4
      · have hle := h4.le
        by_cases e : j = k
        · subst e
          have := h4.1
          have := h4.2
          exact h3 ⟨rfl, by omega⟩
        · exact h1.great (bud_dy h.dy) hbT.2.2.1 (by omega) h4 hbT.2.2.2.1
      · exact h.not_clr (par_in h.dy) h1.2.2.2.1
    · rintro ⟨h1, h2⟩
      refine ⟨⟨h1, fun hin => h2 ((par_in h.dy).trans hin)⟩, ?_⟩
      rintro ⟨rfl, rfl⟩
      refine h2 ?_
      have := par_in (bud_dy h.dy)
      rwa [par_bud h.dy] at this
  · obtain ⟨p, hp, hi⟩ := h.had
    exact ⟨p, hp, (par_in h.dy).trans hi⟩
/-- At the end: what is free without the block that was given back. -/
theorem GInv.stop (h : GInv n T T' cur a k) (hs : k = n ∨ bud a k ∉ cur k) {l : List Nat} (hl : l.Pairwise (· < ·)) (hm : ∀ x, x ∈ l ↔ x = a ∨ x ∈ cur k) : FreeIs n T' (fun j => if j = k then l else cur j) := by
  have hmax : k = n ∨ ¬ clr T' (par a k) (k + 1) := by
    rcases hs with h1 | h1
    · exact .inl h1
    · rcases Nat.lt_or_ge k n with h2 | h2
      · right
        intro hc
        refine h1 ((h.bud_iff h2).2 (clr_in hc ?_))
        have := par_in (bud_dy h.dy)
        rwa [par_bud h.dy] at this
      · left; have := h.kn; omega
  have hbig : ∀ y i, Dy y i → y + 2 ^ i ≤ 2 ^ n → k < i → In y i a k → ¬ clr T' y i := by
    intro y i hy hyn hki hin hc
    rcases hmax with e | e
    · have := ord_le (show 2 ^ i ≤ 2 ^ n by omega); omega
    · exact e (clr_in hc (sub_par h.dy hy hki hin))
  intro j hj
  refine ⟨?_, fun x => ?_⟩
  · show (if j = k then _ else _ : List Nat).Pairwise _
    split
    · exact hl
    · exact (h.cur_ j hj).1
  · have hmem : x ∈ (if j = k then l else cur j) ↔ (j = k ∧ x = a) ∨ x ∈ cur j := by
      split
      · rename_i e; subst e; rw [hm]; simp
      · rename_i e; simp [e]
    show x ∈ (if j = k then _ else _) ↔ _
    rw [hmem, (h.cur_ j hj).2]
    constructor
    · rintro (⟨rfl, rfl⟩ | ⟨h1, h2⟩)
      · exact ⟨h.kn, h.dy, h.an, h.cl, hmax⟩
      · obtain ⟨g1, g2, g3, g4, g5⟩ := h1
        refine ⟨g1, g2, g3, fun p hp => g4 p (h.sub p hp), ?_⟩
        rcases g5 with g5 | g5
        · exact .inl g5
        · refine .inr fun hc => g5 fun p hp => ?_
          rcases h.sup p hp with h3 | h3
          · exact hc p h3
          · -- the parent shares no cell with the hole
            have hjn : j < n := by
              rcases Nat.lt_or_ge j n with h4 | h4
              · exact h4
              · exfalso
                have e : j = n := by omega
                subst e
                have e2 : x = 0 := by have := p2 j; omega
                subst e2
                exact h.not_clr ⟨Nat.zero_le _, by have := h.an; omega⟩ g4
            have hpl := par_le g2 hjn g3
            rcases Nat.lt_or_ge (j + 1) k with h4 | h4
            · rcases dy_cases h.dy (par_dy x j) (Nat.le_of_lt h4) with h5 | h5
              · exact absurd (h5.trans (par_in g2)) h2
              · exact h5.symm.of_in h3
            · rcases dy_cases (par_dy x j) h.dy h4 with h5 | h5
              · exfalso
                by_cases e : j + 1 = k
                · subst e
                  have e2 : par x j = a := by have := h5.1; have := h5.2; omega
                  exact h2 (e2 ▸ par_in g2)
                · exact hbig _ _ (par_dy x j) hpl (by omega) h5 hc
              · exact h5.of_in h3
    · rintro ⟨g1, g2, g3, g4, g5⟩
      by_cases hin : In a k x j
      · left
        have hle := hin.le
        by_cases e : j = k
        · subst e
          have := hin.1
          have := hin.2
          exact ⟨rfl, by omega⟩
        · exfalso
          have hlt : j < k := by omega
          have h5 : clr T' (par x j) (j + 1) := clr_in h.cl (sub_par g2 h.dy hlt hin)
          rcases g5 with g5 | g5
          · have := h.kn; omega
          · exact g5 h5
      · right
        refine ⟨⟨g1, g2, g3, fun p hp => ?_, ?_⟩, hin⟩
        · rcases h.sup p hp with h3 | h3
          · exact g4 p h3
          · -- it shares no cell with the hole
            rcases Nat.lt_or_ge j k with h4 | h4
            · rcases dy_cases h.dy g2 (Nat.le_of_lt h4) with h5 | h5
              · exact absurd h5 hin
              · exact h5.symm.of_in h3
            · rcases dy_cases g2 h.dy h4 with h5 | h5
              · exfalso
                by_cases e : j = k
                · subst e
                  have e2 : x = a := by have := h5.1; have := h5.2; omega
                  exact hin (e2 ▸ In.refl _ _)
                · exact hbig _ _ g2 g3 (by omega) h5 g4
              · exact h5.of_in h3
        · rcases g5 with g5 | g5
          · exact .inl g5
          · exact .inr fun hc => g5 fun p hp => hc p (h.sub p hp)
end
end Go.Proofs.Ytncjhfofmeamdaa
