/- Whether an order fits, and the greatest. -/
import Derived.Test.YtncjhfofmeamdaaLv3
namespace Go.Proofs.Ytncjhfofmeamdaa
open Go.RowKit

variable {w : World} {S : Nat → Prop} {b n : Nat} {T : List (Nat × Nat)} {f : Nat → List Nat}
theorem fit_or (hf : FreeIs n T f) : ∀ (d o : Nat), o + d = n + 1 → NoFit n T o ∨ ∃ k a, Fit n T o k a
  | 0, o, h => .inl fun j h1 h2 => by omega
  | d + 1, o, h => by
    have hon : o ≤ n := by omega
    cases e : f o with
    | nil =>
      have h0 : ∀ x, ¬ Frb n T o x := fun x hx => by
        have := ((hf o hon).2 x).2 hx
        rw [e] at this; cases this
      rcases fit_or hf d (o + 1) (by omega) with h1 | ⟨k, a, g1, g2, g3, g4, g5⟩
      · left
        intro j hj hjn
        by_cases ej : j = o
        · subst ej; exact h0
        · exact h1 j (by omega) hjn
      · right
        refine ⟨k, a, by omega, g2, fun j hj hjk => ?_, g4, g5⟩
        by_cases ej : j = o
        · subst ej; exact h0
        · exact g3 j (by omega) hjk
    | cons y r =>
      right
      have hs := (hf o hon).1
      rw [e] at hs
      refine ⟨o, y, Nat.le_refl _, hon, fun j h1 h2 => by omega, ((hf o hon).2 y).1 (by rw [e]; exact List.mem_cons_self ..), fun x hx => ?_⟩
      have h7 := ((hf o hon).2 x).2 hx
      rw [e] at h7
      rcases List.mem_cons.1 h7 with rfl | h8
      · exact Nat.le_refl _
      · exact Nat.le_of_lt ((List.pairwise_cons.1 hs).1 x h8)
theorem Liv.fit (h : Liv w S b n T) {o : Nat} (ho : o ≤ n) : NoFit n T o ∨ ∃ k a, Fit n T o k a := by
  obtain ⟨_, _, m, fb, A, c, f, _, h4, _⟩ := h
  exact fit_or h4 (n + 1 - o) o (by omega)
/-- The greatest order that fits; -1: none. -/
def Great (n : Nat) (T : List (Nat × Nat)) (g : Int) : Prop := -1 ≤ g ∧ g ≤ n ∧ (∀ j : Nat, j ≤ n → g < (j : Int) → ∀ x, ¬ Frb n T j x) ∧ (0 ≤ g → ∃ x, Frb n T g.toNat x)
theorem Liv.greatest (h : Liv w S b n T) {g : Int} (hg : Great n T g) : Calls Try.prog 23 #[.pointer (some ⟨b, 0, none⟩)] w fun e w' => e = .returned (.int .i64 g) ∧ w = w' := by
  obtain ⟨h1, _, m, fb, A, c, f, h3, h4, _⟩ := h
  obtain ⟨g1, g2, g3, g4⟩ := hg
  refine greatest_any h3 h1 g g1 g2 (fun j hj hgj => nil_of h4 hj (g3 j hj hgj)) fun h0 e => ?_
  obtain ⟨x, hx⟩ := g4 h0
  have := ((h4 g.toNat (by omega)).2 x).2 hx
  rw [e] at this; cases this
end Go.Proofs.Ytncjhfofmeamdaa
