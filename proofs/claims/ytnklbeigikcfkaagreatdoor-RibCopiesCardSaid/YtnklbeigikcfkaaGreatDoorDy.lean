/- Blocks of cells, each as many as a power of two, at a multiple of it: plain laws. -/
namespace Go.Proofs.YtnklbeigikcfkaaGreatDoor

/-- The block of order j at x begins at a multiple of its size. -/
def Dy (x j : Nat) : Prop := 2 ^ j ∣ x
/-- The second lies in the first. -/
def In (x j a o : Nat) : Prop := x ≤ a ∧ a + 2 ^ o ≤ x + 2 ^ j
/-- They share no cell. -/
def Dis (x j a o : Nat) : Prop := x + 2 ^ j ≤ a ∨ a + 2 ^ o ≤ x
def par (x j : Nat) : Nat := x / 2 ^ (j + 1) * 2 ^ (j + 1)

theorem p2 (j : Nat) : 0 < 2 ^ j := Nat.two_pow_pos j
theorem p2s (j : Nat) : 2 ^ (j + 1) = 2 * 2 ^ j := by rw [Nat.pow_succ]; omega
theorem p2le {i j : Nat} (h : i ≤ j) : 2 ^ i ≤ 2 ^ j := Nat.pow_le_pow_right (by omega) h
theorem Dy.zero (j : Nat) : Dy 0 j := Nat.dvd_zero _
theorem Dy.le {x i j : Nat} (h : Dy x j) (hij : i ≤ j) : Dy x i := Nat.dvd_trans (Nat.pow_dvd_pow 2 hij) h
theorem Dis.symm {x j a o : Nat} (h : Dis x j a o) : Dis a o x j := by unfold Dis at *; omega
theorem Dis.not_in {x j a o : Nat} (h : Dis x j a o) : ¬ In x j a o := by
  have := p2 j
  have := p2 o
  unfold Dis at h
  unfold In
  omega
theorem In.trans {x j y i z k : Nat} (h : In x j y i) (h' : In y i z k) : In x j z k := by unfold In at *; omega
theorem In.refl (x j : Nat) : In x j x j := ⟨Nat.le_refl _, Nat.le_refl _⟩
theorem Dis.of_in {x j a o b i : Nat} (h : Dis x j a o) (h' : In a o b i) : Dis x j b i := by unfold Dis In at *; omega
theorem Dis.of_in2 {x j a o b i : Nat} (h : Dis x j a o) (h' : In x j b i) : Dis b i a o := by unfold Dis In at *; omega
theorem In.ord {x j a o : Nat} (h : In x j a o) : 2 ^ o ≤ 2 ^ j := by unfold In at h; omega
theorem ord_le {o j : Nat} (h : 2 ^ o ≤ 2 ^ j) : o ≤ j := (Nat.pow_le_pow_iff_right (by omega)).1 h
theorem In.le {x j a o : Nat} (h : In x j a o) : o ≤ j := ord_le h.ord
/-- Of two blocks the lesser lies in the greater, or they share no cell. -/
theorem dy_cases {x j a o : Nat} (hx : Dy x j) (ha : Dy a o) (ho : o ≤ j) : In x j a o ∨ Dis x j a o := by
  obtain ⟨u, rfl⟩ := hx
  obtain ⟨v, rfl⟩ := ha
  obtain ⟨m, hm⟩ : ∃ m, 2 ^ j = 2 ^ o * m := ⟨2 ^ (j - o), by rw [← Nat.pow_add]; congr 1; omega⟩
  have hp := p2 o
  unfold In Dis
  rw [hm]
  have e1 : 2 ^ o * m * u = 2 ^ o * (m * u) := Nat.mul_assoc _ _ _
  rw [e1]
  rcases Nat.lt_or_ge v (m * u) with h | h
  · right; right
    have := Nat.mul_le_mul_left (2 ^ o) (show v + 1 ≤ m * u by omega)
    rw [Nat.mul_add] at this
    omega
  · rcases Nat.lt_or_ge v (m * u + m) with h2 | h2
    · left
      have a1 := Nat.mul_le_mul_left (2 ^ o) h
      have a2 := Nat.mul_le_mul_left (2 ^ o) (show v + 1 ≤ m * u + m by omega)
      rw [Nat.mul_add, Nat.mul_add] at a2
      omega
    · right; left
      have a1 := Nat.mul_le_mul_left (2 ^ o) h2
      rw [Nat.mul_add] at a1
      omega
theorem par_dy (x j : Nat) : Dy (par x j) (j + 1) := ⟨x / 2 ^ (j + 1), by unfold par; rw [Nat.mul_comm]⟩
theorem par_in {x j : Nat} (hx : Dy x j) : In (par x j) (j + 1) x j := by
  rcases dy_cases (par_dy x j) hx (Nat.le_succ j) with h | h
  · exact h
  · exfalso
    have h1 := Nat.div_add_mod x (2 ^ (j + 1))
    have h2 := Nat.mod_lt x (p2 (j + 1))
    have hp := p2 j
    rw [Nat.mul_comm] at h1
    unfold Dis par at h
    omega
/-- Whatever is greater than a block and has it has its parent. -/
theorem sub_par {x j y i : Nat} (hx : Dy x j) (hy : Dy y i) (hji : j < i) (h : In y i x j) : In y i (par x j) (j + 1) := by
  rcases dy_cases hy (par_dy x j) hji with h1 | h1
  · exact h1
  · exact absurd h (h1.of_in (par_in hx)).not_in
/-- A block is the lower or the upper half of its parent. -/
theorem par_half {x j : Nat} (hx : Dy x j) : x = par x j ∨ x = par x j + 2 ^ j := by
  obtain ⟨h1, h2⟩ := par_in hx
  obtain ⟨u, hu⟩ := hx
  obtain ⟨v, hv⟩ := par_dy x j
  rw [p2s] at h2 hv
  have hp := p2 j
  rw [hv] at h1 h2 ⊢
  have e : 2 * 2 ^ j * v = 2 ^ j * (2 * v) := by rw [Nat.mul_comm 2, Nat.mul_assoc]
  rw [e] at h1 h2 ⊢
  rw [hu] at h1 h2 ⊢
  have h3 : 2 * v ≤ u := Nat.le_of_mul_le_mul_left h1 hp
  have h4 : u ≤ 2 * v + 1 := by
    rcases Nat.lt_or_ge (2 * v + 1) u with h5 | h5
    · have := Nat.mul_le_mul_left (2 ^ j) (show 2 * v + 1 + 1 ≤ u from h5)
      rw [Nat.mul_add, Nat.mul_add] at this
      omega
    · exact h5
  rcases Nat.lt_or_ge u (2 * v + 1) with h5 | h5
  · left; congr 1; omega
  · right
    have : u = 2 * v + 1 := by omega
    rw [this, Nat.mul_add]
    omega

/-! ### what is free -/
abbrev Tk := List (Nat × Nat)
def clr (T : Tk) (x j : Nat) : Prop := ∀ p, p ∈ T → Dis x j p.1 p.2
def Frb (n : Nat) (T : Tk) (j x : Nat) : Prop := j ≤ n ∧ Dy x j ∧ x + 2 ^ j ≤ 2 ^ n ∧ clr T x j ∧ (j = n ∨ ¬ clr T (par x j) (j + 1))
structure TOk (n : Nat) (T : Tk) : Prop where
  dy : ∀ p, p ∈ T → Dy p.1 p.2 ∧ p.2 ≤ n ∧ p.1 + 2 ^ p.2 ≤ 2 ^ n
  dis : T.Pairwise fun p q => Dis p.1 p.2 q.1 q.2
theorem clr_in {T : Tk} {x j y i : Nat} (h : clr T x j) (hi : In x j y i) : clr T y i := fun p hp => (h p hp).of_in2 hi
/-- Whoever is free is the greatest that is clear. -/
theorem Frb.great {n : Nat} {T : Tk} {j x y i : Nat} (h : Frb n T j x) (hy : Dy y i) (hyn : y + 2 ^ i ≤ 2 ^ n) (hji : j < i) (hin : In y i x j) : ¬ clr T y i := by
  intro hc
  rcases h.2.2.2.2 with rfl | h1
  · have := ord_le (show 2 ^ i ≤ 2 ^ j by omega)
    omega
  · exact h1 (clr_in hc (sub_par h.2.1 hy hji hin))
/-- The rows of free blocks, by their orders. -/
def FreeIs (n : Nat) (T : Tk) (f : Nat → List Nat) : Prop := ∀ j, j ≤ n → (f j).Pairwise (· < ·) ∧ ∀ x, x ∈ f j ↔ Frb n T j x

/-- One is taken: it is the first of the order k; the rest of it is free. -/
def take' (f : Nat → List Nat) (a o k : Nat) : Nat → List Nat := fun j => if j = k then (f k).tail else if o ≤ j ∧ j < k then [a + 2 ^ j] else f j
theorem par_le {n x j : Nat} (hx : Dy x j) (hj : j < n) (hn : x + 2 ^ j ≤ 2 ^ n) : par x j + 2 ^ (j + 1) ≤ 2 ^ n := by
  have hz : Dy 0 n := Dy.zero n
  have h0 : In 0 n x j := ⟨Nat.zero_le _, by omega⟩
  have := (sub_par hx hz hj h0).2
  omega
theorem take_free {n : Nat} {T : Tk} {f : Nat → List Nat} (hf : FreeIs n T f) {a o k : Nat} (hok : o ≤ k) (hkn : k ≤ n) (hempty : ∀ j, o ≤ j → j < k → f j = []) {r : List Nat} (hk : f k = a :: r) :
    FreeIs n (T ++ [(a, o)]) (take' f a o k) ∧ Dy a o ∧ a + 2 ^ o ≤ 2 ^ n ∧ clr T a o := by
  have hfa : Frb n T k a := ((hf k hkn).2 a).1 (by rw [hk]; simp)
  obtain ⟨_, hda, han, hca, _⟩ := hfa
  have hinO : In a k a o := ⟨Nat.le_refl _, by have := p2le hok; omega⟩
  have hdo : Dy a o := hda.le hok
  have hclr : ∀ x j, clr (T ++ [(a, o)]) x j ↔ clr T x j ∧ Dis x j a o := by
    intro x j
    unfold clr
    constructor
    · intro h
      exact ⟨fun p hp => h p (List.mem_append_left _ hp), h (a, o) (by simp)⟩
    · rintro ⟨h1, h2⟩ p hp
      rcases List.mem_append.1 hp with h3 | h3
      · exact h1 p h3
      · rw [List.mem_singleton] at h3; subst h3; exact h2
  refine ⟨fun j hj => ⟨?_, fun x => ?_⟩, hdo, by have := p2le hok; omega, clr_in hca hinO⟩
  · unfold take'
    split
    · have := (hf k hkn).1
      rw [hk] at this ⊢
      exact (List.pairwise_cons.1 this).2
    · split
      · simp
      · exact (hf j hj).1
  · -- membership
    by_cases hdx : Dy x j ∧ x + 2 ^ j ≤ 2 ^ n
    · obtain ⟨hdx, hxn⟩ := hdx
      rcases Nat.lt_or_ge j k with hjk | hjk
      · -- a lesser one
        rcases dy_cases hda hdx (Nat.le_of_lt hjk) with hin | hdis
        · -- it lies in the block that was taken apart
          have hparin : In a k (par x j) (j + 1) := sub_par hdx hda hjk hin
          have hnf : x ∉ f j := fun h => by
            have h1 := ((hf j hj).2 x).1 h
            exact h1.great hda han hjk hin hca
          have hmem : x ∈ take' f a o k j ↔ o ≤ j ∧ x = a + 2 ^ j := by
            unfold take'
            rw [if_neg (by omega)]
            by_cases hoj : o ≤ j
            · rw [if_pos ⟨hoj, hjk⟩]; simp [hoj]
            · rw [if_neg (by omega)]
              constructor
              · intro h; exact absurd h hnf
              · intro h; omega
          rw [hmem]
          constructor
          · rintro ⟨hoj, rfl⟩
            have hp := p2 j
            have hpo := p2le hoj
            refine ⟨hj, hdx, hxn, (hclr _ _).2 ⟨clr_in hca hin, .inr (by omega)⟩, .inr fun hc => ?_⟩
            have hd := ((hclr _ _).1 hc).2
            have hpe : par (a + 2 ^ j) j = a := by
              rcases par_half hdx with h1 | h1
              · exfalso
                have h2 := par_in hdx
                rw [← h1] at h2
                have h3 : Dy (a + 2 ^ j) (j + 1) := h1 ▸ par_dy _ _
                have h4 : Dy a (j + 1) := hda.le hjk
                have h5 : 2 ^ (j + 1) ∣ 2 ^ j := (Nat.dvd_add_right h4).1 h3
                have := Nat.le_of_dvd hp h5
                rw [p2s] at this
                omega
              · omega
            rw [hpe] at hd
            have hps := p2s j
            have := p2 o
            unfold Dis at hd
            omega
          · rintro ⟨_, _, _, hc, hm⟩
            have hd := ((hclr _ _).1 hc).2
            have hm2 : ¬ clr (T ++ [(a, o)]) (par x j) (j + 1) := by
              rcases hm with h | h
              · omega
              · exact h
            have hpc : clr T (par x j) (j + 1) := clr_in hca hparin
            have hnd : ¬ Dis (par x j) (j + 1) a o := fun h => hm2 ((hclr _ _).2 ⟨hpc, h⟩)
            have hoj : o ≤ j := by
              rcases Nat.lt_or_ge j o with h1 | h1
              · exfalso
                rcases dy_cases hdo (par_dy x j) h1 with h2 | h2
                · exact hd.symm.not_in (h2.trans (par_in hdx))
                · exact hnd h2.symm
              · exact h1
            refine ⟨hoj, ?_⟩
            have hpa : par x j = a := by
              rcases dy_cases (par_dy x j) hdo (by omega) with h1 | h1
              · have := hparin.1
                have := h1.1
                omega
              · exact absurd h1 hnd
            rcases par_half hdx with h1 | h1
            · exfalso
              rw [hpa] at h1
              subst h1
              have := p2 j
              have := p2 o
              unfold Dis at hd
              omega
            · rw [hpa] at h1; exact h1
        · -- it lies beside
          have hne : x ≠ a + 2 ^ j := by
            rintro rfl
            have h1 : In a k (a + 2 ^ j) j := ⟨Nat.le_add_right _ _, by have := p2le (show j + 1 ≤ k from hjk); rw [p2s] at this; omega⟩
            exact hdis.not_in h1
          have hmem : x ∈ take' f a o k j ↔ x ∈ f j := by
            unfold take'
            rw [if_neg (by omega)]
            by_cases hoj : o ≤ j
            · rw [if_pos ⟨hoj, hjk⟩, hempty j hoj hjk]; simp [hne]
            · rw [if_neg (by omega)]
          rw [hmem, (hf j hj).2 x]
          have hc : clr (T ++ [(a, o)]) x j ↔ clr T x j := by
            rw [hclr]
            exact ⟨fun h => h.1, fun h => ⟨h, (hdis.of_in2 hinO).symm⟩⟩
          have hpc : clr (T ++ [(a, o)]) (par x j) (j + 1) ↔ clr T (par x j) (j + 1) := by
            rw [hclr]
            refine ⟨fun h => h.1, fun h => ⟨h, ?_⟩⟩
            rcases dy_cases hda (par_dy x j) hjk with h1 | h1
            · exact absurd (h1.trans (par_in hdx)) hdis.not_in
            · exact (h1.of_in2 hinO).symm
          unfold Frb
          rw [hc, hpc]
      · -- as great or greater
        rcases dy_cases hdx hda hjk with hin | hdis
        · -- it has the block
          have hnc : ¬ clr (T ++ [(a, o)]) x j := fun h => ((hclr _ _).1 h).2.not_in (hin.trans hinO)
          constructor
          · intro h
            exfalso
            unfold take' at h
            by_cases e : j = k
            · subst e
              rw [if_pos rfl, hk] at h
              have hxa : x = a := by have := hin.1; have := hin.2; omega
              have := (hf j hj).1
              rw [hk] at this
              have := (List.pairwise_cons.1 this).1 x h
              omega
            · rw [if_neg e, if_neg (by omega)] at h
              have h1 := ((hf j hj).2 x).1 h
              have h2 : Frb n T k a := ((hf k hkn).2 a).1 (by rw [hk]; simp)
              exact h2.great hdx hxn (by omega) hin h1.2.2.2.1
          · intro h; exact absurd h.2.2.2.1 hnc
        · have hmem : x ∈ take' f a o k j ↔ x ∈ f j := by
            unfold take'
            by_cases e : j = k
            · subst e
              have hxa : x ≠ a := by
                rintro rfl
                exact hdis.not_in (In.refl _ _)
              rw [if_pos rfl, hk]; simp [hxa]
            · rw [if_neg e, if_neg (by omega)]
          rw [hmem, (hf j hj).2 x]
          have hc : clr (T ++ [(a, o)]) x j ↔ clr T x j := by
            rw [hclr]
            exact ⟨fun h => h.1, fun h => ⟨h, hdis.of_in hinO⟩⟩
          unfold Frb
          rw [hc]
          refine ⟨fun ⟨h1, h2, h3, h4, h5⟩ => ⟨h1, h2, h3, h4, ?_⟩, fun ⟨h1, h2, h3, h4, h5⟩ => ⟨h1, h2, h3, h4, ?_⟩⟩
          · rcases h5 with h5 | h5
            · exact .inl h5
            · exact .inr fun h => h5 ((hclr _ _).1 h).1
          · rcases h5 with h5 | h5
            · exact .inl h5
            · refine .inr fun h => h5 ((hclr _ _).2 ⟨h, ?_⟩)
              have hjn : j < n := by
                rcases Nat.lt_or_ge j n with h6 | h6
                · exact h6
                · exfalso
                  have e : j = n := by omega
                  subst e
                  have e2 : x = 0 := by have := p2 j; omega
                  subst e2
                  exact hdis.not_in ⟨Nat.zero_le _, by omega⟩
              rcases dy_cases (par_dy x j) hda (by omega) with h6 | h6
              · exfalso
                have h7 : Frb n T k a := ((hf k hkn).2 a).1 (by rw [hk]; simp)
                exact h7.great (par_dy x j) (par_le hdx hjn hxn) (by omega) h6 h
              · exact h6.of_in hinO
    · constructor
      · intro h
        exfalso
        refine hdx ?_
        unfold take' at h
        by_cases e : j = k
        · subst e
          rw [if_pos rfl, hk] at h
          have h1 := ((hf j hj).2 x).1 (by rw [hk]; exact List.mem_cons_of_mem _ h)
          exact ⟨h1.2.1, h1.2.2.1⟩
        · rw [if_neg e] at h
          by_cases e2 : o ≤ j ∧ j < k
          · rw [if_pos e2, List.mem_singleton] at h
            subst h
            refine ⟨(Nat.dvd_add_right (hda.le (Nat.le_of_lt e2.2))).2 (Nat.dvd_refl _), ?_⟩
            have := p2le (show j + 1 ≤ k from e2.2)
            rw [p2s] at this
            omega
          · rw [if_neg e2] at h
            have h1 := ((hf j hj).2 x).1 h
            exact ⟨h1.2.1, h1.2.2.1⟩
      · intro h; exact absurd ⟨h.2.1, h.2.2.1⟩ hdx
end Go.Proofs.YtnklbeigikcfkaaGreatDoor
