/- Take and Give of anything. -/
import Derived.Test.YtncjhfofmeamdaaStp
namespace Go.Proofs.Ytncjhfofmeamdaa
open Go.RowKit

variable {w : World} {S : Nat → Prop} {b n : Nat} {T : List (Nat × Nat)}
theorem LivE.same (h : Liv w S b n T) : LivE w S b n T w := ⟨h.mono fun _ h => .inl h, Fr.refl _ _⟩
theorem Liv.give_any (h : Liv w S b n T) (a : Int) (h1 : -9223372036854775808 ≤ a) (h2 : a ≤ 9223372036854775807) :
    Calls Try.prog 13 #[.pointer (some ⟨b, 0, none⟩), .int .i64 a] w fun e w' => ∃ (c : Int) (T' : List (Nat × Nat)), e = .returned (.int .i64 c) ∧ LivE w S b n T' w' := by
  by_cases hno : ∀ p, p ∈ T → (p.1 : Int) ≠ a
  · refine (h.give_no a h1 h2 hno).mono ?_
    rintro e w' ⟨rfl, rfl⟩
    exact ⟨91, T, rfl, LivE.same h⟩
  · simp only [Classical.not_forall, ne_eq, Classical.not_not] at hno
    obtain ⟨⟨x, o⟩, hp, rfl⟩ := hno
    refine (h.give hp).mono ?_
    rintro e w' ⟨rfl, hl⟩
    exact ⟨0, _, rfl, hl⟩
theorem Liv.take_any (h : Liv w S b n T) (o : Int) :
    Calls Try.prog 15 #[.pointer (some ⟨b, 0, none⟩), .int .i64 o] w fun e w' => ∃ (a c : Int) (T' : List (Nat × Nat)), e = .returned (.tuple #[.int .i64 a, .int .i64 c]) ∧ LivE w S b n T' w' := by
  by_cases ho : o < 0 ∨ (n : Int) < o
  · refine (h.take_arg o ho).mono ?_
    rintro e w' ⟨rfl, rfl⟩
    exact ⟨0, 1, T, rfl, LivE.same h⟩
  · obtain ⟨k, rfl⟩ : ∃ k : Nat, o = k := ⟨o.toNat, by omega⟩
    rcases h.fit (o := k) (by omega) with h1 | ⟨j, a, h1⟩
    · refine (h.take_no k (by omega) h1).mono ?_
      rintro e w' ⟨rfl, rfl⟩
      exact ⟨0, 90, T, rfl, LivE.same h⟩
    · refine (h.take h1).mono ?_
      rintro e w' ⟨rfl, hl⟩
      exact ⟨_, 0, _, rfl, hl⟩
end Go.Proofs.Ytncjhfofmeamdaa
