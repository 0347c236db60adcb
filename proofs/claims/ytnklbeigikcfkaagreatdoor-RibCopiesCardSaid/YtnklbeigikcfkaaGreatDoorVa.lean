/- addr.Valid, the widths, first: what they answer. -/
import Derived.Test.YtnklbeigikcfkaaGreatDoorAd
import Derived.Test.YtnklbeigikcfkaaGreatDoorOpen
import Derived.IntWalk
import Derived.Deep.RegionWith
import Derived.Carry
namespace Go.Proofs.YtnklbeigikcfkaaGreatDoor
open Go.RowKit

theorem retb {a b : Bool} (h : a = b) : Ending.returned (.bool a) = .returned (.bool b) := by rw [h]
/-- No block that was there has turned. -/
def N0 : Nat → Prop := fun _ => False
theorem fst_eq {n k s : Nat} {m : Int} (hn : n < 18446744073709551616) (hs : k - (min (max m 0) (k : Int)).toNat = s) : IntKind.u64.wrap ((n : Int) / 2 ^ s * 2 ^ s) = ((first n m k : Nat) : Int) := by
  have h := first_le n m k
  have e : (n : Int) / 2 ^ s * 2 ^ s = ((first n m k : Nat) : Int) := by
    unfold first
    rw [hs]
    simp
  rw [e, IntWalk.u64_in _ (by omega)]
theorem fst_id {n k : Nat} {m : Int} (hn : n < 18446744073709551616) (hs : k - (min (max m 0) (k : Int)).toNat = 0) : IntKind.u64.wrap (n : Int) = ((first n m k : Nat) : Int) := by
  have := fst_eq hn hs
  simpa using this
section
variable {w : World}
set_option maxHeartbeats 1600000 in
theorem aval (a : Ad) : Calls Tryz.prog 65 #[adV a] w fun e w' => e = .returned (.bool (validA a)) ∧ Fr N0 w w' := by
  obtain ⟨s, h, l⟩ := a
  cases s with
  | true =>
    go_enter Tryz.func65, Tryz.ntmps65
    unfold adV
    go_wp2_with fail
    go_ret
    exact ⟨retb (by simp [validA]), (Fr.refl _ _).alloc _⟩
  | false =>
    by_cases e : h = 0
    · subst e
      go_enter Tryz.func65, Tryz.ntmps65
      unfold adV
      go_wp2_with fail
      go_ret
      exact ⟨retb (by simp [validA]; omega), (Fr.refl _ _).alloc _⟩
    · have e1 : decide ((h : Int) = 0) = false := by simp; omega
      go_enter Tryz.func65, Tryz.ntmps65
      unfold adV
      go_wp2_with fail
      go_ret
      exact ⟨retb (by simp [validA, e]), (Fr.refl _ _).alloc _⟩
theorem wid (a : Ad) : Calls Tryz.prog 66 #[adV a] w fun e w' => e = .returned (.int .i64 (widthA a)) ∧ Fr N0 w w' := by
  obtain ⟨s, h, l⟩ := a
  cases s with
  | true =>
    go_enter Tryz.func66, Tryz.ntmps66
    unfold adV
    go_wp2_with fail
    go_ret
    exact ⟨rfl, (Fr.refl _ _).alloc _⟩
  | false =>
    go_enter Tryz.func66, Tryz.ntmps66
    unfold adV
    go_wp2_with fail
    go_ret
    exact ⟨rfl, (Fr.refl _ _).alloc _⟩
theorem fst_ (n : Nat) (hn : n < 18446744073709551616) (m : Int) (h1 : -9223372036854775808 ≤ m) (h2 : m ≤ 9223372036854775807) (k : Nat) (hk : k ≤ 64) :
    Calls Tryz.prog 87 #[.int .u64 n, .int .i64 m, .int .i64 (k : Int)] w fun e w' => e = .returned (.int .u64 (first n m k)) ∧ w = w' := by
  go_enter Tryz.func87, Tryz.ntmps87
  go_wp2_with fail
  all_goals go_ret
  all_goals refine ⟨ret_eq ?_, rfl⟩
  all_goals first | exact fst_id hn (by omega) | exact fst_eq hn (by omega) | skip
end
end Go.Proofs.YtnklbeigikcfkaaGreatDoor
