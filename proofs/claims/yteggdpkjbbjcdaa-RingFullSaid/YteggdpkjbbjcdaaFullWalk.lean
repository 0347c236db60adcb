/- RingFull, walked. -/
import Derived.Test.YteggdpkjbbjcdaaAwake
namespace Go.Proofs.Yteggdpkjbbjcdaa
open Go.RowKit

set_option maxHeartbeats 1600000 in
theorem full_any (order turned : Int) (w : World) (ht : -9223372036854775808 ≤ turned) (ht2 : turned ≤ 9223372036854775807) :
    Calls Try.prog 7 #[.int .i64 order, .int .i64 turned] w fun e w' => e = .returned (.bool true) ∧ Below w.heap.size w w' := by
  obtain ⟨k, hk⟩ : ∃ k : Nat, order % 8 = k := ⟨(order % 8).toNat, by omega⟩
  have hk7 : k ≤ 7 := by omega
  have hb := i64_and7 order
  rw [hk] at hb
  clear hk
  go_enter Try.func7, Try.ntmps7
  go_wp2_with fail
  refine (awake_any _).mono ?_
  rintro e w1 ⟨rfl, hB1⟩
  have H1 := Lib.hid hB1
  clear hB1
  go_wp2_with fail
  refine (new_int k (by omega) _).mono ?_
  rintro e w2 ⟨b, g, rfl, hR, hb1, hg1, hB2⟩
  have H2 := Lib.hid (H1.out.trans (hB2.mono H1.out.size))
  have hS : ∀ i, i = b ∨ i = g → w.heap.size ≤ i := by have := H1.out.size; rintro i (rfl | rfl) <;> omega
  clear hB2
  go_wp2_with fail
  have HK := Lib.hid (show (2 : Nat) ^ k = 2 ^ k from rfl)
  have HR := Lib.hid hR
  clear hR
  go_loop [7, 8] (fun s i => ∃ j : Nat, j ≤ k ∧ i = .int .i64 j ∧ s = .int .i64 ((2 ^ j : Nat) : Int)) (fun _ i => k - (intOf i).toNat)
  case atStart => exact ⟨0, Nat.zero_le _, rfl, rfl⟩
  case round =>
    obtain ⟨j, hj, rfl, rfl⟩ := hrel
    by_cases hlt : j < k
    · have h6 : 2 ^ j ≤ 64 := Nat.pow_le_pow_right (n := 2) (j := 6) (by omega) (by omega)
      have HP := Lib.hid (show 2 ^ (j + 1) = 2 * 2 ^ j from by rw [Nat.pow_succ]; omega)
      generalize 2 ^ j = s at *
      go_wp2_with fail
      go_round
      case rel => exact ⟨j + 1, by omega, by go_num, by rw [HP.out]; go_num⟩
      case measure => simp [intOf]; omega
    · obtain rfl : j = k := by omega
      have h7 : 2 ^ j ≤ 128 := Nat.pow_le_pow_right (n := 2) (j := 7) (by omega) (by omega)
      have HR' := HR.out
      clear HR HK hlt hj
      generalize 2 ^ j = s at *
      by_cases hneg : turned < 0
      · obtain ⟨T, hT⟩ : ∃ T : Nat, (-(turned + 1)) % 1000 = T := ⟨((-(turned + 1)) % 1000).toNat, by omega⟩
        have hT1 : T < 1000 := by omega
        have hT2 : -((turned + 1).tmod 1000) = (T : Int) := by rw [← Int.neg_tmod, Int.tmod_eq_emod_of_nonneg (by omega)]; exact hT
        go_wp2_with fail
        go_loopw [9] (fun i wr => ∃ n : Nat, n ≤ T ∧ i = .int .i64 n ∧ RingIs wr b g 81 3 s n [] ∧ Below w.heap.size w wr) (fun i _ => T - (intOf i).toNat)
        case atStart => exact ⟨0, Nat.zero_le _, rfl, HR', H2.out⟩
        case round =>
          obtain ⟨n, hn, rfl, hRn, hBn⟩ := hrel
          have hsp : 0 < s := hRn.open_.1
          have HBn := Lib.hid hBn
          clear hBn
          by_cases hlt : n < T
          · go_wp2_with fail
            refine (push_int b g _ _ _ n _ hRn (by simp; omega)).mono ?_
            rintro e w3 ⟨rfl, hR3, hF3⟩
            have HB3 := Lib.hid (below_fr HBn.out hF3 HBn.out.size hS)
            clear hF3
            simp [hsp] at hR3
            have hd : decide (([] : List Value).length < s) = true := by simp [hsp]
            rw [hd]
            go_wp2_with fail
            refine (pop_some_int b g _ _ _ _ _ hR3 (by simp; omega)).mono ?_
            rintro e w4 ⟨rfl, hR4, hF4⟩
            have HB4 := Lib.hid (below_fr HB3.out hF4 HB3.out.size hS)
            clear hF4
            go_wp2_with fail
            go_roundw
            case rel => exact ⟨n + 1, by omega, by go_num, hR4, HB4.out⟩
            case measure => simp [intOf]; omega
          · obtain rfl : n = T := by omega
            clear hlt
            go_wp2_with fail
            go_loopw [13] (fun i wr => ∃ (q : Nat) (xs : List Value), q ≤ s ∧ i = .int .i64 q ∧ xs.length = q ∧ RingIs wr b g 81 3 s n xs ∧ Below w.heap.size w wr) (fun i _ => s - (intOf i).toNat)
            case atStart => exact ⟨0, [], Nat.zero_le _, rfl, rfl, hRn, HBn.out⟩
            case round =>
              obtain ⟨q, xs, hq, rfl, hql, hRq, hBq⟩ := hrel
              have HBq := Lib.hid hBq
              clear hBq
              by_cases hlt : q < s
              · go_wp2_with fail
                have hroom := room_int b g _ _ _ _ hRq (by omega)
                rw [hql] at hroom
                refine hroom.mono ?_
                rintro e w5 ⟨rfl, k5, rfl⟩
                go_wp2_with fail
                have hpush := push_int b g _ _ _ q (wr.drewN k5) hRq (by omega)
                rw [hql] at hpush
                refine hpush.mono ?_
                rintro e w6 ⟨rfl, hR6, hF6⟩
                rw [if_pos hlt] at hR6
                have hd : decide (q < s) = true := by simp [hlt]
                rw [hd]
                have HB6 := Lib.hid (below_fr (below_fr (S := fun _ => False) HBq.out ((Fr.refl _ _).drewN k5) HBq.out.size (fun _ h => h.elim)) hF6 HBq.out.size hS)
                have HQ := Lib.hid hql
                clear hql hpush hroom hF6 hd
                go_wp2_with fail
                go_roundw
                case rel => first | exact ⟨q + 1, _, by omega, by go_num, by simp [HQ.out], hR6, HB6.out⟩ | ((repeat apply Exists.intro); exact ⟨⟨q + 1, _, by omega, by go_num, by simp [HQ.out], hR6, HB6.out⟩, rfl⟩)
                case measure => simp [intOf]; omega
              · obtain rfl : q = s := by omega
                clear hlt
                have hpush := push_int b g _ _ _ (-1) wr hRq (by omega)
                rw [hql, if_neg (by omega)] at hpush
                have hd : decide (q < q) = false := by simp
                rw [hd] at hpush
                have HQ := Lib.hid hql
                clear hql hd
                have HP := Lib.hid hpush
                clear hpush
                go_wp2_with fail
                refine HP.out.mono ?_
                rintro e w6 ⟨rfl, hR6, hF6⟩
                have HB6 := Lib.hid (below_fr HBq.out hF6 HBq.out.size hS)
                clear hF6
                go_wp2_with fail
                have hroom := room_int b g _ _ _ _ hR6 (by have := HQ.out; omega)
                rw [HQ.out] at hroom
                have h0 : (q : Int) - q = 0 := by omega
                rw [h0] at hroom
                refine hroom.mono ?_
                rintro e w7 ⟨rfl, k7, rfl⟩
                go_wp2_with fail
                have hlen := len_int b g _ _ _ (w6.drewN k7) hR6 (by have := HQ.out; omega)
                rw [HQ.out] at hlen
                refine hlen.mono ?_
                rintro e w8 ⟨rfl, k8, rfl⟩
                clear hroom hlen h0
                go_wp2_with fail
                go_ret
                exact ⟨by simp, below_fr (S := fun _ => False) HB6.out ((Fr.refl _ _).drewN _) HB6.out.size (fun _ h => h.elim)⟩
      · obtain ⟨T, hT⟩ : ∃ T : Nat, (turned) % 1000 = T := ⟨((turned) % 1000).toNat, by omega⟩
        have hT1 : T < 1000 := by omega
        have hTa : (T : Int) ≤ turned % 1000 := by omega
        have hTb : turned % 1000 ≤ (T : Int) := by omega
        clear hT
        go_wp2_with fail
        go_loopw [9] (fun i wr => ∃ n : Nat, n ≤ T ∧ i = .int .i64 n ∧ RingIs wr b g 81 3 s n [] ∧ Below w.heap.size w wr) (fun i _ => T - (intOf i).toNat)
        case atStart => exact ⟨0, Nat.zero_le _, rfl, HR', H2.out⟩
        case round =>
          obtain ⟨n, hn, rfl, hRn, hBn⟩ := hrel
          have hsp : 0 < s := hRn.open_.1
          have HBn := Lib.hid hBn
          clear hBn
          by_cases hlt : n < T
          · go_wp2_with fail
            refine (push_int b g _ _ _ n _ hRn (by simp; omega)).mono ?_
            rintro e w3 ⟨rfl, hR3, hF3⟩
            have HB3 := Lib.hid (below_fr HBn.out hF3 HBn.out.size hS)
            clear hF3
            simp [hsp] at hR3
            have hd : decide (([] : List Value).length < s) = true := by simp [hsp]
            rw [hd]
            go_wp2_with fail
            refine (pop_some_int b g _ _ _ _ _ hR3 (by simp; omega)).mono ?_
            rintro e w4 ⟨rfl, hR4, hF4⟩
            have HB4 := Lib.hid (below_fr HB3.out hF4 HB3.out.size hS)
            clear hF4
            go_wp2_with fail
            go_roundw
            case rel => exact ⟨n + 1, by omega, by go_num, hR4, HB4.out⟩
            case measure => simp [intOf]; omega
          · obtain rfl : n = T := by omega
            clear hlt
            go_wp2_with fail
            go_loopw [13] (fun i wr => ∃ (q : Nat) (xs : List Value), q ≤ s ∧ i = .int .i64 q ∧ xs.length = q ∧ RingIs wr b g 81 3 s n xs ∧ Below w.heap.size w wr) (fun i _ => s - (intOf i).toNat)
            case atStart => exact ⟨0, [], Nat.zero_le _, rfl, rfl, hRn, HBn.out⟩
            case round =>
              obtain ⟨q, xs, hq, rfl, hql, hRq, hBq⟩ := hrel
              have HBq := Lib.hid hBq
              clear hBq
              by_cases hlt : q < s
              · go_wp2_with fail
                have hroom := room_int b g _ _ _ _ hRq (by omega)
                rw [hql] at hroom
                refine hroom.mono ?_
                rintro e w5 ⟨rfl, k5, rfl⟩
                go_wp2_with fail
                have hpush := push_int b g _ _ _ q (wr.drewN k5) hRq (by omega)
                rw [hql] at hpush
                refine hpush.mono ?_
                rintro e w6 ⟨rfl, hR6, hF6⟩
                rw [if_pos hlt] at hR6
                have hd : decide (q < s) = true := by simp [hlt]
                rw [hd]
                have HB6 := Lib.hid (below_fr (below_fr (S := fun _ => False) HBq.out ((Fr.refl _ _).drewN k5) HBq.out.size (fun _ h => h.elim)) hF6 HBq.out.size hS)
                have HQ := Lib.hid hql
                clear hql hpush hroom hF6 hd
                go_wp2_with fail
                go_roundw
                case rel => first | exact ⟨q + 1, _, by omega, by go_num, by simp [HQ.out], hR6, HB6.out⟩ | ((repeat apply Exists.intro); exact ⟨⟨q + 1, _, by omega, by go_num, by simp [HQ.out], hR6, HB6.out⟩, rfl⟩)
                case measure => simp [intOf]; omega
              · obtain rfl : q = s := by omega
                clear hlt
                have hpush := push_int b g _ _ _ (-1) wr hRq (by omega)
                rw [hql, if_neg (by omega)] at hpush
                have hd : decide (q < q) = false := by simp
                rw [hd] at hpush
                have HQ := Lib.hid hql
                clear hql hd
                have HP := Lib.hid hpush
                clear hpush
                go_wp2_with fail
                refine HP.out.mono ?_
                rintro e w6 ⟨rfl, hR6, hF6⟩
                have HB6 := Lib.hid (below_fr HBq.out hF6 HBq.out.size hS)
                clear hF6
                go_wp2_with fail
                have hroom := room_int b g _ _ _ _ hR6 (by have := HQ.out; omega)
                rw [HQ.out] at hroom
                have h0 : (q : Int) - q = 0 := by omega
                rw [h0] at hroom
                refine hroom.mono ?_
                rintro e w7 ⟨rfl, k7, rfl⟩
                go_wp2_with fail
                have hlen := len_int b g _ _ _ (w6.drewN k7) hR6 (by have := HQ.out; omega)
                rw [HQ.out] at hlen
                refine hlen.mono ?_
                rintro e w8 ⟨rfl, k8, rfl⟩
                clear hroom hlen h0
                go_wp2_with fail
                go_ret
                exact ⟨by simp, below_fr (S := fun _ => False) HB6.out ((Fr.refl _ _).drewN _) HB6.out.size (fun _ h => h.elim)⟩

theorem fullw (w : World) (order : Int) (_ : -9223372036854775808 ≤ order) (_ : order ≤ 9223372036854775807) (turned : Int) (ht : -9223372036854775808 ≤ turned) (ht2 : turned ≤ 9223372036854775807) :
    Calls Try.prog 7 #[.int .i64 order, .int .i64 turned] w fun e w' => e = .returned (.bool true) ∧ Below w.heap.size w w' := full_any order turned w ht ht2
end Go.Proofs.Yteggdpkjbbjcdaa
