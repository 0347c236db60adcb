/- The document's bits of an address. -/
import Derived.Test.YtcameghlkplgfaaGreatDoorRb
import Derived.Test.YtcameghlkplgfaaGreatDoorBi
namespace Go.Proofs.YtcameghlkplgfaaGreatDoor
open Go.RowKit
section
variable {w : World}
set_option maxHeartbeats 3200000 in
set_option maxRecDepth 100000 in
theorem rbit (a : Ad) (ho : a.ok) (m : Int) (h1 : -9223372036854775808 ≤ m) (h2 : m ≤ 9223372036854775807) : Calls Tryz.prog 62 #[adV a, .int .i64 m] w fun e w' => e = .returned (.int .i64 (bitA a m)) ∧ Fr N0 w w' := by
  obtain ⟨s, h, l⟩ := a
  have HO := Lib.hid ho
  have c32 : ∀ (w : World) {b : Bool}, validA ⟨s, h, l⟩ = b → Calls Tryz.prog 40 #[.agg #[.bool s, .int .u64 (h : Int), .int .u64 (l : Int)]] w fun e w' => e = .returned (.bool b) ∧ Fr N0 w w' := fun w b hb => hb ▸ rval (w := w) ⟨s, h, l⟩
  obtain ⟨wi, hwi⟩ : ∃ wi, wi = widthA ⟨s, h, l⟩ := ⟨_, rfl⟩
  have hw := Lib.hid (show wi ≤ 128 by rw [hwi]; unfold widthA; split <;> omega)
  have c33 : ∀ w : World, Calls Tryz.prog 41 #[.agg #[.bool s, .int .u64 (h : Int), .int .u64 (l : Int)]] w fun e w' => e = .returned (.int .i64 (wi : Int)) ∧ Fr N0 w w' := fun w => by rw [hwi]; exact rwid (w := w) ⟨s, h, l⟩
  have HW := Lib.hid hwi
  clear hwi
  have key : ∀ b, (validA ⟨s, h, l⟩ = b ∧ ((b = false ∧ bitA ⟨s, h, l⟩ m = 0) ∨ (b = true ∧ m < 0 ∧ bitA ⟨s, h, l⟩ m = 0) ∨ (b = true ∧ 0 ≤ m ∧ decide (m < 0) = false ∧ (wi : Int) ≤ m ∧ bitA ⟨s, h, l⟩ m = 0))) →
      Calls Tryz.prog 62 #[adV ⟨s, h, l⟩, .int .i64 m] w fun e w' => e = .returned (.int .i64 (bitA ⟨s, h, l⟩ m)) ∧ Fr N0 w w' := by
    rintro b ⟨e1, hc⟩
    have k32 := fun w => c32 w e1
    clear c32 e1 ho
    go_enter Tryz.func62, Tryz.ntmps62
    unfold adV
    go_wp2_with fail
    have HA1 := Lib.hid (Blk.new w 24 #[Value.bool s, Value.int .u64 (h : Int), Value.int .u64 (l : Int)])
    have HF1 := Lib.hid (Fr.alloc (Fr.refl N0 w) (.cells #[Value.bool s, Value.int .u64 (h : Int), Value.int .u64 (l : Int)] 24))
    generalize w.alloc _ = w1 at *
    obtain ⟨g1, hg1⟩ : ∃ g1, g1 = w.heap.size := ⟨_, rfl⟩
    rw [← hg1] at HA1 ⊢
    have HG1 : Hid (w.heap.size ≤ g1) := Lib.hid (by omega)
    clear hg1
    have HZ1 : Hid (∀ W, Fr N0 w1 W → Blk W g1 24 #[Value.bool s, Value.int .u64 (h : Int), Value.int .u64 (l : Int)]) := Lib.hid fun W hf => HA1.out.fr hf id
    have F := Lib.hid (Fr.refl N0 w1)
    obtain ⟨z1_0, z1_1, z1_2⟩ := (HZ1.out _ F.out).c3
    rcases hc with ⟨rfl, he⟩ | ⟨rfl, hm, he⟩ | ⟨rfl, hm, hd0, hd, he⟩
    all_goals
      have HE := Lib.hid he
      clear he
      (go_wp2_with (first
        | (go_at_call 40; refine (k32 _).mono ?_; rintro e w2 ⟨rfl, hf⟩; have F := Lib.hid (F.out.trans hf); obtain ⟨z1_0, z1_1, z1_2⟩ := (HZ1.out _ F.out).c3)
        | (go_at_call 41; refine (c33 _).mono ?_; rintro e w2 ⟨rfl, hf⟩; have F := Lib.hid (F.out.trans hf); obtain ⟨z1_0, z1_1, z1_2⟩ := (HZ1.out _ F.out).c3)))
      go_ret
      exact ⟨ret_eq (by rw [HE.out]; rfl), HF1.out.trans F.out⟩
  have e0 : ∀ {p : Prop} [Decidable p], ¬ p → decide p = false := fun h => decide_eq_false h
  by_cases hv : validA ⟨s, h, l⟩ = true
  · by_cases hm : m < 0
    · exact key _ ⟨rfl, .inr (.inl ⟨hv, hm, if_pos (.inr (.inl hm))⟩)⟩
    · by_cases hm2 : (wi : Int) ≤ m
      · exact key _ ⟨rfl, .inr (.inr ⟨hv, by omega, e0 hm, hm2, if_pos (.inr (.inr (by rw [← HW.out]; exact hm2)))⟩)⟩
      · obtain ⟨i, rfl⟩ : ∃ i : Nat, m = i := ⟨m.toNat, by omega⟩
        have hin : i < wi := by omega
        have k32 := fun w => c32 w hv
        have hn : wi = 8 * nby ⟨s, h, l⟩ := by rw [HW.out]; exact nby_w _
        have hd0 := e0 hm
        have hd : decide (wi ≤ i) = false := decide_eq_false (by omega)
        have kb : ∀ w : World, Calls Tryz.prog 49 #[.agg #[.bool s, .int .u64 (h : Int), .int .u64 (l : Int)]] w fun e w' => ∃ v, e = .returned v ∧ Bx w w' v (bytesA ⟨s, h, l⟩) := fun w => by
          have := rbyt (w := w) ⟨s, h, l⟩ ho
          rwa [if_pos hv] at this
        have HB := Lib.hid (byte_bitA (a := ⟨s, h, l⟩) hv (i := i) (by rw [← HW.out]; exact hin))
        obtain ⟨q, hq⟩ : ∃ q, q = i / 8 := ⟨_, rfl⟩
        obtain ⟨r, hr⟩ : ∃ r, r = i % 8 := ⟨_, rfl⟩
        have hqn : q < nby ⟨s, h, l⟩ := by omega
        have hr8 : r ≤ 7 := by omega
        have hi0 : (0 : Int) ≤ (i : Int) := by omega
        have E1 := Lib.hid (show (i : Int) / 8 = (q : Int) by omega)
        have E2 := Lib.hid (show (i : Int) % 8 = (r : Int) by omega)
        rw [← hq, ← hr] at HB
        have HX := Lib.hid (bytesA_at (a := ⟨s, h, l⟩) (j := q) hqn)
        have HLN := Lib.hid (bytesA_len ⟨s, h, l⟩)
        obtain ⟨x, hx⟩ : ∃ x, x = byteA ⟨s, h, l⟩ q := ⟨_, rfl⟩
        have hx256 : x < 256 := by rw [hx]; exact byteA_lt _ _
        rw [← hx] at HB HX
        obtain ⟨L, hL⟩ : ∃ L, L = bytesA ⟨s, h, l⟩ := ⟨_, rfl⟩
        rw [← hL] at HX HLN kb
        obtain ⟨nb, hnb⟩ : ∃ nb, nb = nby ⟨s, h, l⟩ := ⟨_, rfl⟩
        have hlen : L.length = nb := by rw [HLN.out, hnb]; rfl
        rw [← hnb] at hqn
        have hnb16 : nb ≤ 16 := by rw [hnb]; unfold nby; split <;> omega
        have HL := Lib.hid hlen
        clear HLN hlen hnb hL hx hq hr hn hin hm hm2 hv key c32 e0 ho
        go_enter Tryz.func62, Tryz.ntmps62
        unfold adV
        go_wp2_with fail
        have HA1 := Lib.hid (Blk.new w 24 #[Value.bool s, Value.int .u64 (h : Int), Value.int .u64 (l : Int)])
        have HF1 := Lib.hid (Fr.alloc (Fr.refl N0 w) (.cells #[Value.bool s, Value.int .u64 (h : Int), Value.int .u64 (l : Int)] 24))
        generalize w.alloc _ = w1 at *
        obtain ⟨g1, hg1⟩ : ∃ g1, g1 = w.heap.size := ⟨_, rfl⟩
        rw [← hg1] at HA1 ⊢
        have HG1 : Hid (w.heap.size ≤ g1) := Lib.hid (by omega)
        clear hg1
        have HZ1 : Hid (∀ W, Fr N0 w1 W → Blk W g1 24 #[Value.bool s, Value.int .u64 (h : Int), Value.int .u64 (l : Int)]) := Lib.hid fun W hf => HA1.out.fr hf id
        have F := Lib.hid (Fr.refl N0 w1)
        obtain ⟨z1_0, z1_1, z1_2⟩ := (HZ1.out _ F.out).c3
        (go_wp2_with (first
          | (go_at_call 40; refine (k32 _).mono ?_; rintro e w2 ⟨rfl, hf⟩; have F := Lib.hid (F.out.trans hf); obtain ⟨z1_0, z1_1, z1_2⟩ := (HZ1.out _ F.out).c3)
          | (go_at_call 41; refine (c33 _).mono ?_; rintro e w3 ⟨rfl, hf⟩; have F := Lib.hid (F.out.trans hf); obtain ⟨z1_0, z1_1, z1_2⟩ := (HZ1.out _ F.out).c3)))
        refine (kb _).mono ?_
        rintro e w4 ⟨v, rfl, A, c, rfl, hO, -, hf4⟩
        rw [HL.out] at hO ⊢
        obtain ⟨g, rfl⟩ := hO.some_ (by omega)
        have y := hO.cell q (by omega)
        rw [List.getElem?_map, HX.out] at y
        replace y : w4.cell? ⟨g, q, none⟩ = some (.int .u8 (x : Int)) := y
        have HF4 := Lib.hid (HF1.out.trans (F.out.trans hf4))
        clear hO hf4 kb k32 c33
        have e1 := E1.out
        have e2 := E2.out
        go_wp2_with fail
        have EE := Lib.hid e2
        clear e1 e2
        go_loop [7, 8] (fun c k => ∃ j : Nat, r + j ≤ 7 ∧ k = .int .i64 ((r + j : Nat) : Int) ∧ c = .int .i64 ((x / 2 ^ j : Nat) : Int)) (fun _ k => 7 - (RowKit.intOf k).toNat)
        case atStart => exact ⟨0, by omega, by rw [EE.out]; rfl, by rw [Nat.pow_zero, Nat.div_one]⟩
        case round =>
          obtain ⟨j, hj, rfl, rfl⟩ := hrel
          have hle : x / 2 ^ j ≤ x := Nat.div_le_self _ _
          have HD := Lib.hid (show x / 2 ^ j / 2 = x / 2 ^ (j + 1) by rw [Nat.pow_succ, ← Nat.div_div_eq_div_mul])
          obtain ⟨z, hz⟩ : ∃ z, z = x / 2 ^ j := ⟨_, rfl⟩
          rw [← hz] at hle HD ⊢
          have HZ := Lib.hid hz
          clear hz
          obtain ⟨t, ht⟩ : ∃ t, t = r + j := ⟨_, rfl⟩
          rw [← ht] at hj ⊢
          have HT := Lib.hid ht
          clear ht
          by_cases hjr : t < 7
          · have hjI : (t : Int) < 7 := by omega
            go_wp2_with fail
            go_round
            case rel => exact ⟨j + 1, by have := HT.out; omega, by rw [← Nat.add_assoc, ← HT.out]; go_num, by rw [← HD.out]; go_num⟩
            case measure => simp [RowKit.intOf]; omega
          · obtain rfl : t = 7 := by omega
            go_wp2_with fail
            go_ret
            refine ⟨ret_eq ?_, HF4.out⟩
            have h3 := HB.out
            rw [show 7 - r = j by have := HT.out; omega, ← HZ.out] at h3
            rw [← h3]
            omega
  · exact key _ ⟨rfl, .inl ⟨by simpa using hv, if_pos (.inl (by simpa using hv))⟩⟩
end
end Go.Proofs.YtcameghlkplgfaaGreatDoor
