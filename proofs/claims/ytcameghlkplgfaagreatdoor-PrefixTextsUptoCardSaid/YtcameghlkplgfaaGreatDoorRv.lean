/- The document's Valid of addresses, Width. -/
import Derived.Test.YtcameghlkplgfaaGreatDoorQr
namespace Go.Proofs.YtcameghlkplgfaaGreatDoor
open Go.RowKit
section
variable {w : World}
set_option maxHeartbeats 1600000 in
theorem rval (a : Ad) : Calls Tryz.prog 40 #[adV a] w fun e w' => e = .returned (.bool (validA a)) ∧ Fr N0 w w' := by
  obtain ⟨s, h, l⟩ := a
  cases s with
  | true =>
    go_enter Tryz.func40, Tryz.ntmps40
    unfold adV
    go_wp2_with fail
    go_ret
    exact ⟨retb (by simp [validA]), (Fr.refl _ _).alloc _⟩
  | false =>
    by_cases e : h = 0
    · subst e
      go_enter Tryz.func40, Tryz.ntmps40
      unfold adV
      go_wp2_with fail
      go_ret
      exact ⟨retb (by simp [validA]; omega), (Fr.refl _ _).alloc _⟩
    · have e1 : decide ((h : Int) = 0) = false := by simp; omega
      go_enter Tryz.func40, Tryz.ntmps40
      unfold adV
      go_wp2_with fail
      go_ret
      exact ⟨retb (by simp [validA, e]), (Fr.refl _ _).alloc _⟩
theorem rwid (a : Ad) : Calls Tryz.prog 41 #[adV a] w fun e w' => e = .returned (.int .i64 (widthA a)) ∧ Fr N0 w w' := by
  obtain ⟨s, h, l⟩ := a
  cases s with
  | true =>
    go_enter Tryz.func41, Tryz.ntmps41
    unfold adV
    go_wp2_with fail
    go_ret
    exact ⟨rfl, (Fr.refl _ _).alloc _⟩
  | false =>
    go_enter Tryz.func41, Tryz.ntmps41
    unfold adV
    go_wp2_with fail
    go_ret
    exact ⟨rfl, (Fr.refl _ _).alloc _⟩
end
end Go.Proofs.YtcameghlkplgfaaGreatDoor
