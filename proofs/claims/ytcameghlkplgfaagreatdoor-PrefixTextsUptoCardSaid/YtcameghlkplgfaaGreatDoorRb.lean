/- The document's bytes of an address, and its bits. -/
import Derived.Test.YtcameghlkplgfaaGreatDoorRp
import Derived.Test.YtcameghlkplgfaaGreatDoorRv
import Derived.Deep.RegionHeld3
namespace Go.Proofs.YtcameghlkplgfaaGreatDoor
open Go.RowKit
theorem byN_hi (h l : Nat) : byN 8 h ++ byN 8 l = bytesA ⟨true, h, l⟩ := by
  rw [bytes_hi]
  simp [byN, byteA, List.range_succ]
theorem byN_lo (l : Nat) : byN 4 l = bytesA ⟨false, 0, l⟩ := by
  rw [bytes_lo]
  simp [byN, byteA, List.range_succ]
section
variable {w : World}
set_option maxHeartbeats 3200000 in
set_option maxRecDepth 100000 in
theorem rbyt (a : Ad) (ho : a.ok) : Calls Tryz.prog 49 #[adV a] w fun e w' => ∃ v, e = .returned v ∧ Bx w w' v (if validA a = true then bytesA a else []) := by
  obtain ⟨s, h, l⟩ := a
  obtain ⟨ho1, ho2⟩ := ho
  simp only at ho1 ho2
  have c32 : ∀ (w : World) {b : Bool}, validA ⟨s, h, l⟩ = b → Calls Tryz.prog 40 #[.agg #[.bool s, .int .u64 (h : Int), .int .u64 (l : Int)]] w fun e w' => e = .returned (.bool b) ∧ Fr N0 w w' := fun w b hb => hb ▸ rval (w := w) ⟨s, h, l⟩
  by_cases hv : validA ⟨s, h, l⟩ = true
  · rw [if_pos hv]
    have k32 := fun w => c32 w hv
    have HV := Lib.hid hv
    clear c32 hv
    cases s with
    | false =>
      have hh : h = 0 := by
        have := HV.out
        unfold validA at this
        simp at this
        exact this.1
      have kp := fun (W : World) => rput (w := W) (.slice none 0 0) [] (Sr.nil_ W) (by decide) 4 l (by omega) (by omega) ho2
      rw [List.nil_append, byN_lo l] at kp
      subst hh
      go_enter Tryz.func49, Tryz.ntmps49
      unfold adV
      go_wp2_with fail
      have HA1 := Lib.hid (Blk.new w 24 #[Value.bool false, Value.int .u64 0, Value.int .u64 (l : Int)])
      have HF1 := Lib.hid (Fr.alloc (Fr.refl N0 w) (.cells #[Value.bool false, Value.int .u64 0, Value.int .u64 (l : Int)] 24))
      generalize w.alloc _ = w1 at *
      obtain ⟨g1, hg1⟩ : ∃ g1, g1 = w.heap.size := ⟨_, rfl⟩
      rw [← hg1] at HA1 ⊢
      have HG1 : Hid (w.heap.size ≤ g1) := Lib.hid (by omega)
      clear hg1
      have HZ1 : Hid (∀ W, Fr N0 w1 W → Blk W g1 24 #[Value.bool false, Value.int .u64 0, Value.int .u64 (l : Int)]) := Lib.hid fun W hf => HA1.out.fr hf id
      have F := Lib.hid (Fr.refl N0 w1)
      obtain ⟨z1_0, z1_1, z1_2⟩ := (HZ1.out _ F.out).c3
      go_wp2_with (first
        | (go_at_call 40; refine (k32 _).mono ?_; rintro e w2 ⟨rfl, hf⟩; have F := Lib.hid (F.out.trans hf); obtain ⟨z1_0, z1_1, z1_2⟩ := (HZ1.out _ F.out).c3)
        | (go_at_call 69; refine (kp _).mono ?_; rintro e w3 ⟨v3, rfl, B3⟩))
      go_ret
      exact ⟨_, rfl, B3.up (HF1.out.trans F.out)⟩
    | true =>
      have kp := fun (W : World) => rput (w := W) (.slice none 0 0) [] (Sr.nil_ W) (by decide) 8 h (by omega) (by omega) ho1
      have kq := fun (W : World) (v : Value) (hs : Sr W v (byN 8 h)) => rput (w := W) v (byN 8 h) hs (by rw [byN_len]; omega) 8 l (by omega) (by omega) ho2
      rw [List.nil_append] at kp
      rw [byN_hi h l] at kq
      obtain ⟨X, hX⟩ : ∃ X, X = byN 8 h := ⟨_, rfl⟩
      rw [← hX] at kp kq
      clear hX
      go_enter Tryz.func49, Tryz.ntmps49
      unfold adV
      go_wp2_with fail
      have HA1 := Lib.hid (Blk.new w 24 #[Value.bool true, Value.int .u64 (h : Int), Value.int .u64 (l : Int)])
      have HF1 := Lib.hid (Fr.alloc (Fr.refl N0 w) (.cells #[Value.bool true, Value.int .u64 (h : Int), Value.int .u64 (l : Int)] 24))
      generalize w.alloc _ = w1 at *
      obtain ⟨g1, hg1⟩ : ∃ g1, g1 = w.heap.size := ⟨_, rfl⟩
      rw [← hg1] at HA1 ⊢
      have HG1 : Hid (w.heap.size ≤ g1) := Lib.hid (by omega)
      clear hg1
      have HZ1 : Hid (∀ W, Fr N0 w1 W → Blk W g1 24 #[Value.bool true, Value.int .u64 (h : Int), Value.int .u64 (l : Int)]) := Lib.hid fun W hf => HA1.out.fr hf id
      have F := Lib.hid (Fr.refl N0 w1)
      obtain ⟨z1_0, z1_1, z1_2⟩ := (HZ1.out _ F.out).c3
      go_wp2_with (go_at_call 40; refine (k32 _).mono ?_; rintro e w2 ⟨rfl, hf⟩; have F := Lib.hid (F.out.trans hf); obtain ⟨z1_0, z1_1, z1_2⟩ := (HZ1.out _ F.out).c3)
      have HZA := Lib.hid fun (W : World) (hf : Fr N0 w2 W) => (HZ1.out W (F.out.trans hf)).c3
      have HF2 := Lib.hid (HF1.out.trans F.out)
      go_region_held3 (fun w' => w'.cell? ⟨g1, 0, none⟩ = some (.bool true) ∧ w'.cell? ⟨g1, 1, none⟩ = some (.int .u64 (h : Int)) ∧ w'.cell? ⟨g1, 2, none⟩ = some (.int .u64 (l : Int))) (first | go_keep | exact HZA.out _ F5.out | exact HZA.out _ F4.out) ((first
        | (go_at_call_of 69 h; refine (kp _).mono ?_; rintro e w4 ⟨v4, rfl, B4⟩; have F4 := Lib.hid (Fr.trans (by repeat first | exact Fr.refl _ _ | refine Fr.drew ?_ | refine Fr.drewN ?_ _) (show Fr N0 _ w4 from B4.choose_spec.choose_spec.2.2.2) : Fr N0 w2 w4))
        | (go_at_call_of 69 l; refine (kq _ v4 (show Sr _ v4 X from B4.sr)).mono ?_; rintro e w5 ⟨v5, rfl, B5⟩; have F5 := Lib.hid (F4.out.trans (show Fr N0 w4 w5 from B5.choose_spec.choose_spec.2.2.2)))))
      go_wp2_with fail
      go_ret
      exact ⟨_, rfl, (show Bx w4 w5 v5 _ from B5).up (HF2.out.trans F4.out)⟩
  · rw [if_neg hv]
    rw [Bool.not_eq_true] at hv
    have k32 := fun w => c32 w hv
    clear c32 hv
    go_enter Tryz.func49, Tryz.ntmps49
    unfold adV
    go_wp2_with fail
    have HA1 := Lib.hid (Blk.new w 24 #[Value.bool s, Value.int .u64 (h : Int), Value.int .u64 (l : Int)])
    have HF1 := Lib.hid (Fr.alloc (Fr.refl N0 w) (.cells #[Value.bool s, Value.int .u64 (h : Int), Value.int .u64 (l : Int)] 24))
    generalize w.alloc _ = w1 at *
    obtain ⟨g1, hg1⟩ : ∃ g1, g1 = w.heap.size := ⟨_, rfl⟩
    rw [← hg1] at HA1 ⊢
    have HG1 : Hid (w.heap.size ≤ g1) := Lib.hid (by omega)
    clear hg1
    have HZ1 : Hid (∀ W, Fr N0 w1 W → Blk W g1 24 #[Value.bool s, Value.int .u64 (h : Int), Value.int .u64 (l : Int)]) := Lib.hid fun W hf => HA1.out.fr hf id
    have F := Lib.hid (Fr.refl N0 w1)
    obtain ⟨z1_0, z1_1, z1_2⟩ := (HZ1.out _ F.out).c3
    go_wp2_with (first
      | (go_at_call 40; refine (k32 _).mono ?_; rintro e w2 ⟨rfl, hf⟩; have F := Lib.hid (F.out.trans hf); obtain ⟨z1_0, z1_1, z1_2⟩ := (HZ1.out _ F.out).c3))
    go_ret
    exact ⟨_, rfl, (Bx.nil_ _).up (HF1.out.trans F.out)⟩
end
end Go.Proofs.YtcameghlkplgfaaGreatDoor
