/- What a tick lets go, in plain Lean. -/
import Derived.Test.YtgmeebpgncenmaaWh
namespace Go.Proofs.Ytgmeebpgncenmaa

/-! ### the cascade -/
theorem pl_keep2 {now i : Nat} {t : Tm} (h16 : i ≠ 32 + (now + 1) / 256 % 16) (hp : Pl now now now i t) : Pl now now (now + 1) i t := by
  rcases hp with h | h | ⟨a, b, c, d, e⟩
  · exact .inl h
  · exact .inr (.inl h)
  · exact .inr (.inr ⟨a, b, c, by omega, by omega⟩)
theorem pl_same2 {now n1 i : Nat} {t : Tm} (h16 : (now + 1) % 256 ≠ 0) (hp : Pl now n1 now i t) : Pl now n1 (now + 1) i t := by
  rcases hp with h | h | ⟨a, b, c, d, e⟩
  · exact .inl h
  · exact .inr (.inl h)
  · exact .inr (.inr ⟨a, b, c, by omega, by omega⟩)
theorem pl_keep1 {now n2 i : Nat} {t : Tm} (h16 : i ≠ 16 + (now + 1) / 16 % 16) (hp : Pl now now n2 i t) : Pl now (now + 1) n2 i t := by
  rcases hp with h | ⟨a, b, c, d, e⟩ | h
  · exact .inl h
  · exact .inr (.inl ⟨a, b, c, by omega, by omega⟩)
  · exact .inr (.inr h)
theorem pl_same1 {now n2 i : Nat} {t : Tm} (h16 : (now + 1) % 16 ≠ 0) (hp : Pl now now n2 i t) : Pl now (now + 1) n2 i t := by
  rcases hp with h | ⟨a, b, c, d, e⟩ | h
  · exact .inl h
  · exact .inr (.inl ⟨a, b, c, by omega, by omega⟩)
  · exact .inr (.inr h)
/-- One out of the third rim's slot goes to a lesser rim. -/
theorem pl_put2 {now : Nat} {t : Tm} (h : (now + 1) % 256 = 0) (hp : Pl now now now (32 + (now + 1) / 256 % 16) t) : now + 1 ≤ t.due ∧ Pl now now (now + 1) (slotI (now + 1) t.due) t := by
  have hd : t.due / 256 = (now + 1) / 256 := by rcases hp with ⟨a, _⟩ | ⟨_, b, _⟩ | ⟨a, b, c, d, e⟩ <;> omega
  refine ⟨by omega, ?_⟩
  unfold slotI
  split
  · rw [if_neg (by omega)]
    exact .inr (.inl ⟨by omega, by omega, rfl, by omega, by omega⟩)
  · exact .inl ⟨by omega, rfl, by omega, by omega⟩
/-- One out of the second rim's slot goes to the first. -/
theorem pl_put1 {now : Nat} {t : Tm} (h : (now + 1) % 16 = 0) (hp : Pl now now (now + 1) (16 + (now + 1) / 16 % 16) t) : now + 1 ≤ t.due ∧ Pl now (now + 1) (now + 1) (slotI (now + 1) t.due) t := by
  have hd : t.due / 16 = (now + 1) / 16 := by rcases hp with ⟨a, _⟩ | ⟨_, b, c, d, e⟩ | ⟨a, b, c, d, e⟩ <;> omega
  refine ⟨by omega, ?_⟩
  unfold slotI
  rw [if_neg (by omega)]
  exact .inl ⟨by omega, rfl, by omega, by omega⟩

section
variable {X : Nat → List Tm} {L : List Tm} {now : Nat}
/-- Whoever stands in the slot of this tick is due, and nobody else. -/
theorem St.due (h : St X L [] now (now + 1) (now + 1)) (t : Tm) : t ∈ X ((now + 1) % 16) ↔ t ∈ L ∧ t.due = now + 1 := by
  have hk : (now + 1) % 16 < 48 := by omega
  constructor
  · intro ht
    obtain ⟨h1, h2⟩ := h.sub _ hk t ht
    refine ⟨h1, ?_⟩
    rcases h2 with ⟨a, b, c, d⟩ | ⟨a, _⟩ | ⟨a, _⟩ <;> omega
  · rintro ⟨ht, hd⟩
    rcases h.cov t ht with h1 | ⟨i, hi, h1⟩
    · cases h1
    · have h2 := (h.sub i hi t h1).2
      have : i = (now + 1) % 16 := by
        rcases h2 with ⟨a, b, c, d⟩ | ⟨a, b, c, d, e⟩ | ⟨a, b, c, d, e⟩ <;> omega
      rwa [← this]
/-- Behind the tick. -/
theorem St.ticked (h : St X L [] now (now + 1) (now + 1)) : St (upd X ((now + 1) % 16) []) (L.filter fun t => decide (t.due ≠ now + 1)) [] (now + 1) (now + 1) (now + 1) := by
  have hk : (now + 1) % 16 < 48 := by omega
  refine ⟨?_, ?_, ?_, ?_, List.nodup_nil, nofun⟩
  · intro i hi t ht
    by_cases e : i = (now + 1) % 16
    · subst e; rw [upd_same] at ht; cases ht
    · rw [upd_other _ _ e] at ht
      obtain ⟨h1, h2⟩ := h.sub i hi t ht
      have hne : t.due ≠ now + 1 := fun hd => e (h.un i _ t hi hk ht ((h.due t).2 ⟨h1, hd⟩))
      refine ⟨List.mem_filter.2 ⟨h1, by simpa using hne⟩, ?_⟩
      rcases h2 with ⟨a, b, c, d⟩ | h2 | h2
      · exact .inl ⟨a, b, by omega, by omega⟩
      · exact .inr (.inl h2)
      · exact .inr (.inr h2)
  · intro t ht
    obtain ⟨h1, h2⟩ := List.mem_filter.1 ht
    rcases h.cov t h1 with h3 | ⟨i, hi, h3⟩
    · cases h3
    · refine .inr ⟨i, hi, ?_⟩
      have e : i ≠ (now + 1) % 16 := by
        rintro rfl
        have := ((h.due t).1 h3).2
        simp [this] at h2
      rw [upd_other _ _ e]
      exact h3
  · intro i hi
    by_cases e : i = (now + 1) % 16
    · subst e; rw [upd_same]; exact List.nodup_nil
    · rw [upd_other _ _ e]; exact h.nd i hi
  · intro i j t hi hj h1 h2
    by_cases e : i = (now + 1) % 16
    · subst e; rw [upd_same] at h1; cases h1
    · by_cases e' : j = (now + 1) % 16
      · subst e'; rw [upd_same] at h2; cases h2
      · rw [upd_other _ _ e] at h1
        rw [upd_other _ _ e'] at h2
        exact h.un i j t hi hj h1 h2
end
end Go.Proofs.Ytgmeebpgncenmaa
