/- The chapter's example, which each law runs ahead of its own part: it answers true and leaves what was there. -/
import Derived.Test.YteggdpkjbbjcdaaRingInt
namespace Go.Proofs.Yteggdpkjbbjcdaa
open Go.RowKit

set_option maxHeartbeats 1600000 in
theorem awake_any (w : World) : Calls Try.prog 8 #[] w fun e w' => e = .returned (.bool true) ∧ Below w.heap.size w w' := by
  go_enter Try.func8, Try.ntmps8
  go_wp2_with fail
  refine (new_int 1 (by omega) _).mono ?_
  rintro e w1 ⟨b, g, rfl, hR1, hb, hg, hB⟩
  have H0 := Lib.hid hB
  have hS : ∀ i, i = b ∨ i = g → w.heap.size ≤ i := by rintro i (rfl | rfl) <;> assumption
  clear hB
  go_wp2_with fail
  refine (new_no_int 17 (by omega) _).mono ?_
  rintro e w' ⟨rfl, rfl⟩
  go_wp2_with fail
  refine (push_int b g _ _ _ 5 _ hR1 (by simp)).mono ?_
  rintro e w2 ⟨rfl, hR2, hF1⟩
  simp at hR2
  have H1 := Lib.hid (below_fr H0.out hF1 H0.out.size hS)
  clear hF1
  go_wp2_with fail
  refine (push_int b g _ _ _ 6 _ hR2 (by simp)).mono ?_
  rintro e w3 ⟨rfl, hR3, hF2⟩
  simp at hR3
  have H2 := Lib.hid (below_fr H1.out hF2 H1.out.size hS)
  clear hF2
  go_wp2_with fail
  refine (push_int b g _ _ _ 7 _ hR3 (by simp)).mono ?_
  rintro e w4 ⟨rfl, hR4, hF3⟩
  simp at hR4
  have H3 := Lib.hid (below_fr H2.out hF3 H2.out.size hS)
  clear hF3
  go_wp2_with fail
  refine (pop_some_int b g _ _ _ _ _ hR4 (by simp)).mono ?_
  rintro e w5 ⟨rfl, hR5, hF4⟩
  have H4 := Lib.hid (below_fr H3.out hF4 H3.out.size hS)
  clear hF4
  go_wp2_with fail
  refine (push_int b g _ _ _ 7 _ hR5 (by simp)).mono ?_
  rintro e w6 ⟨rfl, hR6, hF5⟩
  simp at hR6
  have H5 := Lib.hid (below_fr H4.out hF5 H4.out.size hS)
  clear hF5
  go_wp2_with fail
  refine (peek_some_int b g _ _ 1 (.int .i64 7) _ _ hR6 (by simp) (by simp) (by simp)).mono ?_
  rintro e w' ⟨rfl, k1, rfl⟩
  go_wp2_with fail
  refine (peek_none_int b g _ _ 2 _ (w6.drewN k1) hR6 (by simp) (by simp)).mono ?_
  rintro e w' ⟨rfl, k2, rfl⟩
  go_wp2_with fail
  refine (len_int b g _ _ _ (w6.drewN (k1 + k2)) hR6 (by simp)).mono ?_
  rintro e w' ⟨rfl, k3, rfl⟩
  go_wp2_with fail
  refine (room_int b g _ _ _ (w6.drewN (k1 + k2 + k3)) hR6 (by simp)).mono ?_
  rintro e w' ⟨rfl, k4, rfl⟩
  go_wp2_with fail
  refine (pushed_int b g _ _ _ (w6.drewN (k1 + k2 + k3 + k4)) hR6).mono ?_
  rintro e w' ⟨rfl, rfl⟩
  go_wp2_with fail
  refine (popped_int b g _ _ _ (w6.drewN (k1 + k2 + k3 + k4)) hR6).mono ?_
  rintro e w' ⟨rfl, rfl⟩
  go_wp2_with fail
  go_ret
  exact ⟨rfl, below_fr (S := fun _ => False) H5.out ((Fr.refl _ _).drewN _) H5.out.size (fun _ h => h.elim)⟩
end Go.Proofs.Yteggdpkjbbjcdaa
