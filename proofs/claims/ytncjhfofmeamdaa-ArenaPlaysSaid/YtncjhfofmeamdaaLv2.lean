/- What the arena tells, and Give, at the level of what is taken. -/
import Derived.Test.YtncjhfofmeamdaaLiv
namespace Go.Proofs.Ytncjhfofmeamdaa
open Go.RowKit

section
variable {w w' : World} {S S' : Nat → Prop} {b n : Nat} {T : List (Nat × Nat)}
theorem pow16 {n : Nat} (h : n ≤ 16) : 2 ^ n ≤ 65536 := Nat.le_trans (Nat.pow_le_pow_right (by omega) h) (Nat.le_refl (2 ^ 16))
theorem Liv.free (h : Liv w S b n T) : Calls Try.prog 21 #[.pointer (some ⟨b, 0, none⟩)] w fun e w' => e = .returned (.int .i64 ((2 ^ n - sizes T : Nat) : Int)) ∧ w = w' := by
  obtain ⟨h1, h2, m, fb, A, c, f, h3, h4, h5, h6⟩ := h
  have h7 := pow16 h1
  have h8 := free_any h3 h1 (by omega)
  rwa [show sumF f (n + 1) = 2 ^ n - sizes T by omega] at h8
theorem Liv.order (h : Liv w S b n T) (a : Int) (h1 : -9223372036854775808 ≤ a) (h2 : a ≤ 9223372036854775807) : Calls Try.prog 17 #[.pointer (some ⟨b, 0, none⟩), .int .i64 a] w fun e w' => e = .returned (.int .i64 (ordAt T a)) ∧ w = w' := by
  obtain ⟨_, _, m, fb, A, c, f, h3, _⟩ := h
  exact order_any h3 a h1 h2
theorem Liv.taken (h : Liv w S b n T) : Calls Try.prog 20 #[.pointer (some ⟨b, 0, none⟩)] w (TakenE w T) := by
  obtain ⟨h1, h2, m, fb, A, c, f, h3, _⟩ := h
  exact taken_any h3 (Nat.le_trans h2.length_le (pow16 h1))
theorem sizes_drop (hk : T.Pairwise fun p q => p.1 ≠ q.1) {a o : Nat} (h : (a, o) ∈ T) : sizes (drop T a) + 2 ^ o = sizes T := by
  induction T with
  | nil => cases h
  | cons p r ih =>
    obtain ⟨h1, h2⟩ := List.pairwise_cons.1 hk
    unfold drop sizes at *
    rcases List.mem_cons.1 h with rfl | h3
    · have h4 : r.filter (fun p => decide (p.1 ≠ a)) = r := List.filter_eq_self.2 fun q hq => by simpa using fun e => h1 q hq e.symm
      rw [List.filter_cons, if_neg (by simp), h4, List.map_cons, List.sum_cons]
      exact Nat.add_comm _ _
    · have h5 := ih h2 h3
      have h6 : p.1 ≠ a := h1 _ h3
      rw [List.filter_cons, if_pos (by simpa using h6), List.map_cons, List.map_cons, List.sum_cons, List.sum_cons]
      omega
/-- What is taken: another list now. -/
def LivE (w : World) (S : Nat → Prop) (b n : Nat) (T : List (Nat × Nat)) (w' : World) : Prop := Liv w' (fun i => S i ∨ w.heap.size ≤ i) b n T ∧ Fr S w w'
theorem Liv.give_no (h : Liv w S b n T) (a : Int) (h1 : -9223372036854775808 ≤ a) (h2 : a ≤ 9223372036854775807) (hno : ∀ p, p ∈ T → (p.1 : Int) ≠ a) :
    Calls Try.prog 13 #[.pointer (some ⟨b, 0, none⟩), .int .i64 a] w fun e w' => e = .returned (.int .i64 91) ∧ w = w' := by
  obtain ⟨_, _, m, fb, A, c, f, h3, _⟩ := h
  exact give_none h3 a h1 h2 hno
theorem Liv.give (h : Liv w S b n T) {a o : Nat} (hm : (a, o) ∈ T) :
    Calls Try.prog 13 #[.pointer (some ⟨b, 0, none⟩), .int .i64 (a : Int)] w fun e w' => e = .returned (.int .i64 0) ∧ LivE w S b n (drop T a) w' := by
  obtain ⟨h1, h2, m, fb, A, c, f, h3, h4, h5, h6⟩ := h
  refine (give_ok h3 h1 h4 h2 hm).mono ?_
  rintro e w' ⟨rfl, f', ⟨A', c', k1, k2, k3⟩, k4, k5⟩
  have h7 := sizes_drop h2.keys hm
  exact ⟨rfl, ⟨h1, h2.drop a, m, fb, A', c', f', k1, k4, by omega, fun i hi => (k3 i hi).imp_left (h6 i)⟩, k2.mono fun i _ hi => h6 i hi⟩
end
end Go.Proofs.Ytncjhfofmeamdaa
