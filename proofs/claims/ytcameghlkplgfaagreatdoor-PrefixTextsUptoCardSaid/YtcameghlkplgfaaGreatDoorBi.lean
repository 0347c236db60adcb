/- prefix.Bit. -/
import Derived.Test.YtcameghlkplgfaaGreatDoorOf
import Derived.Test.YtcameghlkplgfaaGreatDoorPr
import Derived.WalkSmall
namespace Go.Proofs.YtcameghlkplgfaaGreatDoor
open Go.RowKit
theorem bit_end {n k r : Nat} (hn : n < 18446744073709551616) (hr : r = n / 2 ^ k % 2) : wrap64 (bits .and .u64 ((n : Int) / 2 ^ k) 1) = (r : Int) := by
  have h := Nat.div_le_self n (2 ^ k)
  have e : (n : Int) / 2 ^ k = ((n / 2 ^ k : Nat) : Int) := by simp
  rw [e]
  generalize n / 2 ^ k = q at *
  rw [Go.and_one_u64 _ (by omega) (by omega), IntWalk.wrap64_in _ (by omega), hr]
  omega
section
variable {w : World}
set_option maxHeartbeats 1600000 in
set_option maxRecDepth 100000 in
theorem bit_ (a : Ad) (ho : a.ok) (m : Int) (h1 : -9223372036854775808 ≤ m) (h2 : m ≤ 9223372036854775807) : Calls Tryz.prog 15 #[adV a, .int .i64 m] w fun e w' => e = .returned (.int .i64 (bitA a m)) ∧ Fr N0 w w' := by
  obtain ⟨s, h, l⟩ := a
  obtain ⟨ho1, ho2⟩ := ho
  simp only at ho1 ho2
  have c29 : ∀ (w : World) {b : Bool}, validA ⟨s, h, l⟩ = b → Calls Tryz.prog 27 #[.agg #[.bool s, .int .u64 (h : Int), .int .u64 (l : Int)]] w fun e w' => e = .returned (.bool b) ∧ Fr N0 w w' := fun w b hb => hb ▸ aval (w := w) ⟨s, h, l⟩
  obtain ⟨wi, hwi⟩ : ∃ wi, wi = widthA ⟨s, h, l⟩ := ⟨_, rfl⟩
  have hw := Lib.hid (show wi ≤ 128 by rw [hwi]; unfold widthA; split <;> omega)
  have c30 : ∀ w : World, Calls Tryz.prog 28 #[.agg #[.bool s, .int .u64 (h : Int), .int .u64 (l : Int)]] w fun e w' => e = .returned (.int .i64 (wi : Int)) ∧ Fr N0 w w' := fun w => by rw [hwi]; exact wid (w := w) ⟨s, h, l⟩
  have HW := Lib.hid hwi
  clear hwi
  have key : ∀ b, (validA ⟨s, h, l⟩ = b ∧ ((b = false ∧ bitA ⟨s, h, l⟩ m = 0) ∨ (b = true ∧ m < 0 ∧ bitA ⟨s, h, l⟩ m = 0) ∨ (b = true ∧ 0 ≤ m ∧ decide (m < 0) = false ∧ (wi : Int) ≤ m ∧ bitA ⟨s, h, l⟩ m = 0)
      ∨ (b = true ∧ 0 ≤ m ∧ decide (m < 0) = false ∧ decide ((wi : Int) ≤ m) = false ∧ ∃ i : Nat, m = (i : Int) ∧ i < wi ∧ ((s = false ∧ i ≤ 31 ∧ bitA ⟨s, h, l⟩ m = l / 2 ^ (31 - i) % 2) ∨ (s = true ∧ i < 64 ∧ bitA ⟨s, h, l⟩ m = h / 2 ^ (63 - i) % 2) ∨ (s = true ∧ 64 ≤ i ∧ i ≤ 127 ∧ bitA ⟨s, h, l⟩ m = l / 2 ^ (127 - i) % 2))))) →
      Calls Tryz.prog 15 #[adV ⟨s, h, l⟩, .int .i64 m] w fun e w' => e = .returned (.int .i64 (bitA ⟨s, h, l⟩ m)) ∧ Fr N0 w w' := by
    rintro b ⟨e1, hc⟩
    have k29 := fun w => c29 w e1
    clear c29 e1
    go_enter Tryz.func15, Tryz.ntmps15
    unfold adV
    go_wp2_with fail
    have HA1 := Lib.hid (Blk.new w 24 #[.bool s, .int .u64 (h : Int), .int .u64 (l : Int)])
    have HF1 := Lib.hid (Fr.alloc (Fr.refl N0 w) (.cells #[.bool s, .int .u64 (h : Int), .int .u64 (l : Int)] 24))
    generalize w.alloc _ = w1 at *
    obtain ⟨g1, hg1⟩ : ∃ g1, g1 = w.heap.size := ⟨_, rfl⟩
    rw [← hg1] at HA1 ⊢
    clear hg1
    have HZ := Lib.hid (fun W (hf : Fr N0 w1 W) => (HA1.out.fr hf id).adx)
    have F := Lib.hid (Fr.refl N0 w1)
    obtain ⟨z0, z1, z2⟩ := HZ.out _ F.out
    rcases hc with ⟨rfl, he⟩ | ⟨rfl, hm, he⟩ | ⟨rfl, hm, hd0, hd, he⟩ | ⟨rfl, hm, hd0, hd, i, rfl, hi, ⟨rfl, hi2, he⟩ | ⟨rfl, hi2, he⟩ | ⟨rfl, hi2, hi3, he⟩⟩
    all_goals
      have HE := Lib.hid he
      clear he
      (go_wp2_with (first
        | (go_at_call 27; refine (k29 _).mono ?_; rintro e w2 ⟨rfl, hf⟩; have F := Lib.hid (F.out.trans hf); obtain ⟨z0, z1, z2⟩ := HZ.out _ F.out)
        | (go_at_call 28; refine (c30 _).mono ?_; rintro e w2 ⟨rfl, hf⟩; have F := Lib.hid (F.out.trans hf); obtain ⟨z0, z1, z2⟩ := HZ.out _ F.out)))
      go_ret
      refine ⟨ret_eq ?_, HF1.out.trans F.out⟩
      first | exact bit_end ho2 HE.out | exact bit_end ho1 HE.out | (rw [HE.out]; rfl)
  exact key _ ⟨rfl, by
    unfold bitA
    by_cases h0 : validA ⟨s, h, l⟩ = true
    · by_cases h1 : m < 0
      · exact .inr (.inl ⟨h0, h1, if_pos (.inr (.inl h1))⟩)
      · by_cases h2 : (wi : Int) ≤ m
        · exact .inr (.inr (.inl ⟨h0, by omega, by simpa using h1, h2, if_pos (.inr (.inr (by rw [← HW.out]; exact h2)))⟩))
        · refine .inr (.inr (.inr ⟨h0, by omega, by simpa using h1, by simpa using h2, m.toNat, by omega, by omega, ?_⟩))
          have h3 := HW.out
          rw [if_neg (by rw [h0, ← h3]; simp; omega)]
          unfold widthA at h3
          cases s with
          | false => simp at h3; exact .inl ⟨rfl, by omega, by simp⟩
          | true =>
            simp at h3
            by_cases h4 : m < 64
            · exact .inr (.inl ⟨rfl, by omega, by simp [h4]⟩)
            · exact .inr (.inr ⟨rfl, by omega, by omega, by simp [h4]⟩)
    · exact .inl ⟨by simpa using h0, if_pos (.inl (by simpa using h0))⟩⟩
end
end Go.Proofs.YtcameghlkplgfaaGreatDoor
