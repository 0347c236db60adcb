/- The arena, whole. -/
import Derived.Test.YtncjhfofmeamdaaGve
import Derived.Test.YtncjhfofmeamdaaSam
namespace Go.Proofs.Ytncjhfofmeamdaa
open Go.RowKit

def sizes (T : List (Nat × Nat)) : Nat := (T.map fun p => 2 ^ p.2).sum
/-- An arena of order n lives in the blocks S, b its own; T is taken. -/
def Liv (w : World) (S : Nat → Prop) (b n : Nat) (T : List (Nat × Nat)) : Prop :=
  n ≤ 16 ∧ TOk n T ∧ ∃ m fb A c f, Ar w b m fb n A c f T ∧ FreeIs n T f ∧ sumF f (n + 1) + sizes T = 2 ^ n ∧ ∀ i, Af b m fb n A i → S i

section
variable {w w' : World} {S S' : Nat → Prop} {b n : Nat} {T : List (Nat × Nat)}
theorem Liv.fr (h : Liv w S b n T) (k : Fr S' w w') (hS : ∀ i, S i → ¬ S' i) : Liv w' S b n T := by
  obtain ⟨h1, h2, m, fb, A, c, f, h3, h4, h5, h6⟩ := h
  exact ⟨h1, h2, m, fb, A, c, f, h3.fr k fun i hi => hS i (h6 i hi), h4, h5, h6⟩
theorem Liv.fr0 (h : Liv w S b n T) (k : Fr (fun _ => False) w w') : Liv w' S b n T := h.fr k fun _ _ => id
theorem Liv.mono (h : Liv w S b n T) (k : ∀ i, S i → S' i) : Liv w S' b n T := by
  obtain ⟨h1, h2, m, fb, A, c, f, h3, h4, h5, h6⟩ := h
  exact ⟨h1, h2, m, fb, A, c, f, h3, h4, h5, fun i hi => k i (h6 i hi)⟩
theorem Liv.lt (h : Liv w S b n T) : b < w.heap.size := by
  obtain ⟨h1, h2, m, fb, A, c, f, h3, h4, h5, h6⟩ := h
  exact h3.lt
theorem perm_sum {l l' : List Nat} (h : l.Perm l') : l.sum = l'.sum := by
  induction h with
  | nil => rfl
  | cons x _ ih => simp [ih]
  | swap x y l => simp; omega
  | trans _ _ h1 h2 => exact h1.trans h2
theorem TOk.length_le (h : TOk n T) : T.length ≤ 2 ^ n := by
  have h1 : (sortL (T.map (·.1))).Pairwise (· < ·) := by
    have h2 : (sortL (T.map (·.1))).Pairwise (· ≤ ·) := (List.pairwise_mergeSort (fun a b c h1 h2 => by simp at h1 h2 ⊢; omega) (fun a b => by simp; omega) _).imp fun h => by simpa using h
    have h3 : (sortL (T.map (·.1))).Pairwise (· ≠ ·) := (List.mergeSort_perm _ _).symm.pairwise (List.pairwise_map.2 h.keys) fun h => h.symm
    exact (h2.and h3).imp fun ⟨a, b⟩ => Nat.lt_of_le_of_ne a b
  have h4 := sorted_len h1 (lo := 0) (N := 2 ^ n) (Nat.zero_le _) fun x hx => ⟨Nat.zero_le _, by
    have h5 := (List.mergeSort_perm _ _).mem_iff.1 hx
    obtain ⟨p, hp, rfl⟩ := List.mem_map.1 h5
    have h6 := (h.dy p hp).2.2
    have h7 := p2 p.2
    omega⟩
  have h8 : (sortL (T.map (·.1))).length = T.length := by unfold sortL; rw [List.length_mergeSort, List.length_map]
  omega
end
end Go.Proofs.Ytncjhfofmeamdaa
