/- span and slot. -/
import Derived.Test.YtgmeebpgncenmaaBase
import Derived.Test.YtgmeebpgncenmaaProg
import Derived.Deep.DeepCutAuto
import Derived.Deep.CutBlock
namespace Go.Proofs.Ytgmeebpgncenmaa
open Go.RowKit

theorem span_0 (w : World) : Calls Try.prog 25 #[.int .i64 0] w fun e w' => e = .returned (.int .i64 1) ∧ w = w' := by
  go_enter Try.func25, Try.ntmps25
  go_wp2_with fail
  go_ret
  exact ⟨rfl, rfl⟩
theorem span_1 (w : World) : Calls Try.prog 25 #[.int .i64 1] w fun e w' => e = .returned (.int .i64 16) ∧ w = w' := by
  go_enter Try.func25, Try.ntmps25
  go_wp2_with fail
  go_ret
  exact ⟨rfl, rfl⟩
theorem span_2 (w : World) : Calls Try.prog 25 #[.int .i64 2] w fun e w' => e = .returned (.int .i64 256) ∧ w = w' := by
  go_enter Try.func25, Try.ntmps25
  go_wp2_with fail
  go_ret
  exact ⟨rfl, rfl⟩

/-- At which place of all slots one that is due then stands. -/
def slotI (now due : Nat) : Nat :=
  if due / 16 ≠ now / 16 ∧ now + 16 ≤ due then (if due / 256 ≠ now / 256 ∧ now + 256 ≤ due then 32 + due / 256 % 16 else 16 + due / 16 % 16) else due % 16


set_option maxHeartbeats 3200000 in
theorem slot_0a (b now due num : Nat) (id : Int) (w : World) (hc : w.cell? ⟨b, 0, none⟩ = some (.int .i64 (now : Int))) (hb : b < w.heap.size) (hd : due < 4611686018427387904)
    (h1 : (due : Int) / 16 = (now : Int) / 16) :
    Calls Try.prog 26 #[.pointer (some ⟨b, 0, none⟩), .agg #[.int .i64 id, .int .i64 (due : Int), .int .i64 (num : Int)]] w fun e w' => e = .returned (.pointer (some ⟨b, 2 + due % 16, none⟩)) ∧ Fr (fun _ => False) w w' := by
  have hne : b ≠ w.heap.size := by omega
  go_enter Try.func26, Try.ntmps26
  go_wp2_with fail
  refine wp_loop_rounds 1 ?_
  rw [rounds_succ]
  go_wp2_with fail
  go_quiet ((go_at_call 25; first | exact Calls.quiet_of_same (left_same (span_1 _)) | exact quiet_add_same (left_same (span_1 _))))
  go_wp2_with fail
  go_quiet ((go_at_call 25; first | exact Calls.quiet_of_same (left_same (span_0 _)) | exact quiet_add_same (left_same (span_0 _))))
  go_wp2_with fail
  go_ret
  exact ⟨rfl, by repeat first | exact (Fr.refl _ w).alloc _ | refine Fr.drewN ?_ _⟩
set_option maxHeartbeats 3200000 in
theorem slot_0b (b now due num : Nat) (id : Int) (w : World) (hc : w.cell? ⟨b, 0, none⟩ = some (.int .i64 (now : Int))) (hb : b < w.heap.size) (hd : due < 4611686018427387904) (hn : now < 4611686018427387904)
    (h1' : ((due : Int) / 16 != (now : Int) / 16) = true) (h2 : decide ((16 : Int) ≤ (due : Int) - (now : Int)) = false) :
    Calls Try.prog 26 #[.pointer (some ⟨b, 0, none⟩), .agg #[.int .i64 id, .int .i64 (due : Int), .int .i64 (num : Int)]] w fun e w' => e = .returned (.pointer (some ⟨b, 2 + due % 16, none⟩)) ∧ Fr (fun _ => False) w w' := by
  have hne : b ≠ w.heap.size := by omega
  go_enter Try.func26, Try.ntmps26
  go_wp2_with fail
  refine wp_loop_rounds 1 ?_
  rw [rounds_succ]
  go_wp2_with fail
  go_quiet ((go_at_call 25; first | exact Calls.quiet_of_same (left_same (span_1 _)) | exact quiet_add_same (left_same (span_1 _))))
  go_wp2_with fail
  go_quiet ((go_at_call 25; first | exact Calls.quiet_of_same (left_same (span_0 _)) | exact quiet_add_same (left_same (span_0 _))))
  go_wp2_with fail
  go_ret
  exact ⟨rfl, by repeat first | exact (Fr.refl _ w).alloc _ | refine Fr.drewN ?_ _⟩
set_option maxHeartbeats 3200000 in
theorem slot_1a (b now due num : Nat) (id : Int) (w : World) (hc : w.cell? ⟨b, 0, none⟩ = some (.int .i64 (now : Int))) (hb : b < w.heap.size) (hd : due < 4611686018427387904)
    (h1' : ((due : Int) / 16 != (now : Int) / 16) = true) (h2 : (16 : Int) ≤ (due : Int) - (now : Int)) (h3 : (due : Int) / 256 = (now : Int) / 256) :
    Calls Try.prog 26 #[.pointer (some ⟨b, 0, none⟩), .agg #[.int .i64 id, .int .i64 (due : Int), .int .i64 (num : Int)]] w fun e w' => e = .returned (.pointer (some ⟨b, 18 + due / 16 % 16, none⟩)) ∧ Fr (fun _ => False) w w' := by
  have hne : b ≠ w.heap.size := by omega
  go_enter Try.func26, Try.ntmps26
  go_wp2_with fail
  refine wp_loop_rounds 2 ?_
  rw [rounds_succ]
  go_wp2_with fail
  go_quiet ((go_at_call 25; first | exact Calls.quiet_of_same (left_same (span_1 _)) | exact quiet_add_same (left_same (span_1 _))))
  go_wp2_with fail
  rw [rounds_succ]
  go_wp2_with fail
  go_quiet ((go_at_call 25; first | exact Calls.quiet_of_same (left_same (span_2 _)) | exact quiet_add_same (left_same (span_2 _))))
  go_wp2_with fail
  go_quiet ((go_at_call 25; first | exact Calls.quiet_of_same (left_same (span_1 _)) | exact quiet_add_same (left_same (span_1 _))))
  go_wp2_with fail
  go_ret
  exact ⟨rfl, by repeat first | exact (Fr.refl _ w).alloc _ | refine Fr.drewN ?_ _⟩
set_option maxHeartbeats 3200000 in
theorem slot_1b (b now due num : Nat) (id : Int) (w : World) (hc : w.cell? ⟨b, 0, none⟩ = some (.int .i64 (now : Int))) (hb : b < w.heap.size) (hd : due < 4611686018427387904)
    (h1' : ((due : Int) / 16 != (now : Int) / 16) = true) (h2 : (16 : Int) ≤ (due : Int) - (now : Int)) (h3' : ((due : Int) / 256 != (now : Int) / 256) = true) (h4 : (due : Int) - (now : Int) < 256) :
    Calls Try.prog 26 #[.pointer (some ⟨b, 0, none⟩), .agg #[.int .i64 id, .int .i64 (due : Int), .int .i64 (num : Int)]] w fun e w' => e = .returned (.pointer (some ⟨b, 18 + due / 16 % 16, none⟩)) ∧ Fr (fun _ => False) w w' := by
  have hne : b ≠ w.heap.size := by omega
  go_enter Try.func26, Try.ntmps26
  go_wp2_with fail
  refine wp_loop_rounds 2 ?_
  rw [rounds_succ]
  go_wp2_with fail
  go_quiet ((go_at_call 25; first | exact Calls.quiet_of_same (left_same (span_1 _)) | exact quiet_add_same (left_same (span_1 _))))
  go_wp2_with fail
  rw [rounds_succ]
  go_wp2_with fail
  go_quiet ((go_at_call 25; first | exact Calls.quiet_of_same (left_same (span_2 _)) | exact quiet_add_same (left_same (span_2 _))))
  go_wp2_with fail
  go_quiet ((go_at_call 25; first | exact Calls.quiet_of_same (left_same (span_1 _)) | exact quiet_add_same (left_same (span_1 _))))
  go_wp2_with fail
  go_ret
  exact ⟨rfl, by repeat first | exact (Fr.refl _ w).alloc _ | refine Fr.drewN ?_ _⟩
set_option maxHeartbeats 3200000 in
theorem slot_2 (b now due num : Nat) (id : Int) (w : World) (hc : w.cell? ⟨b, 0, none⟩ = some (.int .i64 (now : Int))) (hb : b < w.heap.size) (hd : due < 4611686018427387904)
    (h1' : ((due : Int) / 16 != (now : Int) / 16) = true) (h2 : (16 : Int) ≤ (due : Int) - (now : Int)) (h3' : ((due : Int) / 256 != (now : Int) / 256) = true) (h4 : (256 : Int) ≤ (due : Int) - (now : Int)) :
    Calls Try.prog 26 #[.pointer (some ⟨b, 0, none⟩), .agg #[.int .i64 id, .int .i64 (due : Int), .int .i64 (num : Int)]] w fun e w' => e = .returned (.pointer (some ⟨b, 34 + due / 256 % 16, none⟩)) ∧ Fr (fun _ => False) w w' := by
  have hne : b ≠ w.heap.size := by omega
  go_enter Try.func26, Try.ntmps26
  go_wp2_with fail
  refine wp_loop_rounds 3 ?_
  rw [rounds_succ]
  go_wp2_with fail
  go_quiet ((go_at_call 25; first | exact Calls.quiet_of_same (left_same (span_1 _)) | exact quiet_add_same (left_same (span_1 _))))
  go_wp2_with fail
  rw [rounds_succ]
  go_wp2_with fail
  go_quiet ((go_at_call 25; first | exact Calls.quiet_of_same (left_same (span_2 _)) | exact quiet_add_same (left_same (span_2 _))))
  go_wp2_with fail
  rw [rounds_succ]
  go_wp2_with fail
  go_quiet (fail)
  go_wp2_with fail
  go_quiet ((go_at_call 25; first | exact Calls.quiet_of_same (left_same (span_2 _)) | exact quiet_add_same (left_same (span_2 _))))
  go_wp2_with fail
  go_ret
  exact ⟨rfl, by repeat first | exact (Fr.refl _ w).alloc _ | refine Fr.drewN ?_ _⟩
theorem slot_any (b now due num : Nat) (id : Int) (w : World) (hc : w.cell? ⟨b, 0, none⟩ = some (.int .i64 (now : Int))) (hb : b < w.heap.size) (hnd : now ≤ due) (hd : due < 4611686018427387904) :
    Calls Try.prog 26 #[.pointer (some ⟨b, 0, none⟩), .agg #[.int .i64 id, .int .i64 (due : Int), .int .i64 (num : Int)]] w fun e w' => e = .returned (.pointer (some ⟨b, 2 + slotI now due, none⟩)) ∧ Fr (fun _ => False) w w' := by
  by_cases h1 : due / 16 = now / 16
  · have e : slotI now due = due % 16 := by unfold slotI; rw [if_neg (by omega)]
    rw [e]
    exact slot_0a b now due num id w hc hb hd (by omega)
  · have h1' : ((due : Int) / 16 != (now : Int) / 16) = true := by rw [bne_iff_ne]; omega
    by_cases h2 : now + 16 ≤ due
    · by_cases h3 : due / 256 = now / 256
      · have e : 2 + slotI now due = 18 + due / 16 % 16 := by unfold slotI; rw [if_pos ⟨h1, h2⟩, if_neg (by omega)]; omega
        rw [e]
        exact slot_1a b now due num id w hc hb hd h1' (by omega) (by omega)
      · have h3' : ((due : Int) / 256 != (now : Int) / 256) = true := by rw [bne_iff_ne]; omega
        by_cases h4 : now + 256 ≤ due
        · have e : 2 + slotI now due = 34 + due / 256 % 16 := by unfold slotI; rw [if_pos ⟨h1, h2⟩, if_pos ⟨h3, h4⟩]; omega
          rw [e]
          exact slot_2 b now due num id w hc hb hd h1' (by omega) h3' (by omega)
        · have e : 2 + slotI now due = 18 + due / 16 % 16 := by unfold slotI; rw [if_pos ⟨h1, h2⟩, if_neg (by omega)]; omega
          rw [e]
          exact slot_1b b now due num id w hc hb hd h1' (by omega) h3' (by omega)
    · have e : slotI now due = due % 16 := by unfold slotI; rw [if_neg (by omega)]
      rw [e]
      exact slot_0b b now due num id w hc hb hd (by omega) h1' (by simp only [decide_eq_false_iff_not]; omega)
end Go.Proofs.Ytgmeebpgncenmaa
