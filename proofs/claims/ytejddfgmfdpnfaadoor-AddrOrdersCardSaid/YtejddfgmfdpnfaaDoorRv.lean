/- The document's Valid of addresses, Width. -/
import Derived.Test.YtejddfgmfdpnfaaDoorQr
namespace Go.Proofs.YtejddfgmfdpnfaaDoor
open Go.RowKit
section
variable {w : World}
set_option maxHeartbeats 1600000 in
theorem rval (a : Ad) : Calls Tryd.prog 19 #[adV a] w fun e w' => e = .returned (.bool (validA a)) ∧ Fr N0 w w' := by
  obtain ⟨s, h, l⟩ := a
  cases s with
  | true =>
    go_enter Tryd.func19, Tryd.ntmps19
    unfold adV
    go_wp2_with fail
    go_ret
    exact ⟨retb (by simp [validA]), (Fr.refl _ _).alloc _⟩
  | false =>
    by_cases e : h = 0
    · subst e
      go_enter Tryd.func19, Tryd.ntmps19
      unfold adV
      go_wp2_with fail
      go_ret
      exact ⟨retb (by simp [validA]; omega), (Fr.refl _ _).alloc _⟩
    · have e1 : decide ((h : Int) = 0) = false := by simp; omega
      go_enter Tryd.func19, Tryd.ntmps19
      unfold adV
      go_wp2_with fail
      go_ret
      exact ⟨retb (by simp [validA, e]), (Fr.refl _ _).alloc _⟩
end
end Go.Proofs.YtejddfgmfdpnfaaDoor
