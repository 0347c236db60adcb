/- RingPlays: whatever the order. -/
import Derived.Test.YteggdpkjbbjcdaaPlaysWalk
namespace Go.Proofs.Yteggdpkjbbjcdaa
open Go.RowKit

set_option maxRecDepth 100000 in
set_option maxHeartbeats 800000 in
theorem plays_no (w : World) (k : Int) (hk : k < 0 ∨ 16 < k) (A : Option Addr) (len cap : Nat) :
    Calls Try.prog 3 #[.int .i64 k, .slice A len cap] w fun e w' => e = .returned (.bool true) ∧ Below w.heap.size w w' := by
  have HK := Lib.hid hk
  clear hk
  go_enter Try.func3, Try.ntmps3
  go_wp2_with fail
  refine (awake_any _).mono ?_
  rintro e w1 ⟨rfl, hB1⟩
  have H1 := Lib.hid hB1
  clear hB1
  go_wp2_with fail
  refine (new_no_str k HK.out _).mono ?_
  rintro e w2 ⟨rfl, rfl⟩
  go_wp2_with fail
  refine (rnew_no k HK.out _).mono ?_
  rintro e w2 ⟨rfl, rfl⟩
  go_wp2_with fail
  refine wp_loop_rounds 1 ?_
  rw [rounds_succ]
  go_wp2_with fail
  go_ret
  exact ⟨rfl, H1.out⟩

theorem plays_any (w : World) (order : Int) (_ : -9223372036854775808 ≤ order) (_ : order ≤ 9223372036854775807) (A : Option Addr) (len cap : Nat) (hrd : Rd Try.prog w 22 [.slice A len cap]) (_ : len * Try.prog.bytesOf 29 ≤ 140737488351232) :
    Calls Try.prog 3 #[.int .i64 order, .slice A len cap] w fun e w' => e = .returned (.bool true) ∧ Below w.heap.size w w' := by
  by_cases hk : order < 0 ∨ 16 < order
  · exact plays_no w order hk A len cap
  · obtain ⟨k, rfl⟩ : ∃ k : Nat, order = k := ⟨order.toNat, by omega⟩
    obtain ⟨hst, hlen⟩ := steps_in hrd
    exact plays_yes w k (by omega) A len cap hst hlen
end Go.Proofs.Yteggdpkjbbjcdaa
