/- addr.number, prefix.many: of texts that spell a number. -/
import Derived.Test.YtcameghlkplgfaaGreatDoorCm
import Derived.Test.YtcameghlkplgfaaGreatDoorSp
import Derived.Test.YtcameghlkplgfaaGreatDoorSh
namespace Go.Proofs.YtcameghlkplgfaaGreatDoor
open Go.Proofs Go.Shelf Go.RowKit Go.Lib
theorem Fr.freeze {S : Nat → Prop} {a w : World} (h : Fr S a w) (ad : Addr) (n : Nat) (hn : a.heap.size ≤ ad.block) : Fr S a (w.freeze ad n) := by
  by_cases h0 : n = 0
  · unfold World.freeze
    rw [if_pos h0]
    exact h
  · have e : (w.freeze ad n).heap.size = w.heap.size := by simp [World.freeze, h0]
    refine ⟨?_, ?_, ?_, by rw [e]; exact h.size, fun i hi hS => ?_⟩
    · unfold World.freeze; rw [if_neg h0]; exact h.os
    · unfold World.freeze; rw [if_neg h0]; exact h.tape
    · unfold World.freeze; rw [if_neg h0]; exact h.output
    · refine Eq.trans ?_ (h.block i hi hS)
      unfold World.freeze
      rw [if_neg h0]
      show (w.heap.modify _ _)[i]? = _
      rw [Array.getElem?_modify, if_neg (by omega)]
section
variable {w : World}
set_option maxHeartbeats 1600000 in
set_option maxRecDepth 100000 in
theorem numb_ok (s : ByteArray) (u : Nat) (h0 : s.toList.isEmpty = false) (h3 : s.size ≤ 3) (h : Lib.parseUintB 64 s.data.toList = .ok u) : Calls Tryz.prog 56 #[.string s, .int .i64 10, .int .i64 3] w fun e w' => e = .returned (.tuple #[.int .u64 (u : Int), .bool true]) ∧ Fr N0 w w' := by
  have k58 : ∀ w : World, Calls Tryz.prog 36 #[.string s, .int .i64 10, .int .i64 64] w fun e w' => e = .returned (.tuple #[.int .u64 (u : Int), .nilIface]) ∧ Fr N0 w w' := by
    intro w
    refine (Any.strconv_ParseUint_10_at64_ok Tryz.puL s (by omega) u h w).mono ?_
    rintro e w' ⟨rfl, hw⟩
    refine ⟨rfl, ?_⟩
    rcases hw with rfl | rfl
    · exact Fr.refl _ _
    · exact Fr.freeze (by unfold Lib.bytesCells; repeat first | exact Fr.refl _ _ | refine Fr.drew ?_ | refine Fr.alloc ?_ _) _ _ (Nat.le_refl _)
  clear h
  have hd : decide (3 < (s.size : Int)) = false := by simp; omega
  go_enter Tryz.func56, Tryz.ntmps56
  go_wp2_with (go_at_call 36; refine (k58 _).mono ?_; rintro e w2 ⟨rfl, hf⟩)
  go_region
  all_goals go_wp2_with fail
  all_goals go_ret2
  all_goals exact ⟨rfl, hf.drew⟩
set_option maxHeartbeats 1600000 in
set_option maxRecDepth 100000 in
theorem many8 : Calls Tryz.prog 20 #[.string ⟨#[56]⟩] w fun e w' => e = .returned (.int .i64 8) ∧ Fr N0 w w' := by
  have k58 : ∀ w : World, Calls Tryz.prog 36 #[.string ⟨#[56]⟩, .int .i64 10, .int .i64 16] w fun e w' => e = .returned (.tuple #[.int .u64 8, .nilIface]) ∧ Fr N0 w w' := by
    intro w
    refine (Any.strconv_ParseUint_10_at16_ok Tryz.puL ⟨#[56]⟩ (by decide) 8 (by decide) w).mono ?_
    rintro e w' ⟨rfl, hw⟩
    refine ⟨rfl, ?_⟩
    rcases hw with rfl | rfl
    · exact Fr.refl _ _
    · exact Fr.freeze (by unfold Lib.bytesCells; repeat first | exact Fr.refl _ _ | refine Fr.drew ?_ | refine Fr.alloc ?_ _) _ _ (Nat.le_refl _)
  go_enter Tryz.func20, Tryz.ntmps20
  go_wp2_with (go_at_call 36; refine (k58 _).mono ?_; rintro e w2 ⟨rfl, hf⟩)
  go_ret
  exact ⟨rfl, hf⟩
end
end Go.Proofs.YtcameghlkplgfaaGreatDoor
