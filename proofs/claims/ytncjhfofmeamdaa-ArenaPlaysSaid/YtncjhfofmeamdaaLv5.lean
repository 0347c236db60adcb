/- There is a greatest. -/
import Derived.Test.YtncjhfofmeamdaaLv4
namespace Go.Proofs.Ytncjhfofmeamdaa
open Go.RowKit

variable {w : World} {S : Nat → Prop} {b n : Nat} {T : List (Nat × Nat)} {f : Nat → List Nat}
theorem great_or (hf : FreeIs n T f) : ∀ d, d ≤ n + 1 → (∀ j : Nat, j ≤ n → d ≤ j → ∀ x, ¬ Frb n T j x) → ∃ g, Great n T g
  | 0, _, h => ⟨-1, by omega, by omega, fun j hj _ => h j hj (Nat.zero_le _), fun h => by omega⟩
  | d + 1, hd, h => by
    cases e : f d with
    | nil =>
      have h0 : ∀ x, ¬ Frb n T d x := fun x hx => by
        have := ((hf d (by omega)).2 x).2 hx
        rw [e] at this; cases this
      refine great_or hf d (by omega) fun j hj hdj => ?_
      by_cases ej : j = d
      · subst ej; exact h0
      · exact h j hj (by omega)
    | cons y r =>
      refine ⟨(d : Int), by omega, by omega, fun j hj hg => h j hj (by omega), fun _ => ⟨y, ?_⟩⟩
      rw [Int.toNat_natCast]
      exact ((hf d (by omega)).2 y).1 (by rw [e]; exact List.mem_cons_self ..)
theorem Liv.great (h : Liv w S b n T) : ∃ g, Great n T g := by
  obtain ⟨_, _, m, fb, A, c, f, _, h4, _⟩ := h
  exact great_or h4 (n + 1) (Nat.le_refl _) fun j h1 h2 => by omega
theorem great_eq {g g' : Int} (h : Great n T g) (h' : Great n T g') : g = g' := by
  obtain ⟨g1, g2, g3, g4⟩ := h
  obtain ⟨k1, k2, k3, k4⟩ := h'
  rcases Int.lt_trichotomy g g' with h1 | h1 | h1
  · obtain ⟨x, hx⟩ := k4 (by omega)
    exact absurd hx (g3 g'.toNat (by omega) (by omega) x)
  · exact h1
  · obtain ⟨x, hx⟩ := g4 (by omega)
    exact absurd hx (k3 g.toNat (by omega) (by omega) x)
end Go.Proofs.Ytncjhfofmeamdaa
