/- WheelBusy answers true. -/
import Derived.Test.YtgmeebpgncenmaaAwake
import Derived.IntWalk
namespace Go.Proofs.Ytgmeebpgncenmaa
open Go.RowKit

/-- n of them from the a-th on: the k-th is due in 1 + k * s ticks from T. -/
def busy (T s a n : Nat) : List Tm := (List.range' a n).map fun k : Nat => (⟨(k : Int), T + (1 + k * s), k + 1⟩ : Tm)
theorem busy_zero (T s a : Nat) : busy T s a 0 = [] := rfl
theorem busy_len (T s a n : Nat) : (busy T s a n).length = n := by simp [busy]
theorem busy_snoc (T s k : Nat) : busy T s 0 k ++ [⟨(k : Int), T + (1 + k * s), k + 1⟩] = busy T s 0 (k + 1) := by
  unfold busy
  rw [List.range'_1_concat]
  simp
theorem busy_new (T s k : Nat) : ∀ t, t ∈ busy T s 0 k → t.id ≠ (k : Int) := by
  intro t ht
  obtain ⟨q, hq, rfl⟩ := List.mem_map.1 ht
  have := (List.mem_range'_1.1 hq)
  show (q : Int) ≠ (k : Int)
  omega
theorem busy_le {T s a n : Nat} {t : Tm} (ht : t ∈ busy T s a n) : T + (1 + a * s) ≤ t.due := by
  obtain ⟨q, hq, rfl⟩ := List.mem_map.1 ht
  have h1 := (List.mem_range'_1.1 hq).1
  have h2 := Nat.mul_le_mul_right s h1
  show T + (1 + a * s) ≤ T + (1 + q * s)
  omega
theorem busy_no {T s a n x : Nat} (hx : x < T + (1 + a * s)) : dueL (busy T s a n) x = [] ∧ leftL (busy T s a n) x = busy T s a n := by
  constructor
  · refine List.filter_eq_nil_iff.2 fun t ht => ?_
    have := busy_le ht
    simp; omega
  · refine List.filter_eq_self.2 fun t ht => ?_
    have := busy_le ht
    simp; omega
theorem busy_yes {T s a n : Nat} (hs : 1 ≤ s) : dueL (busy T s a (n + 1)) (T + (1 + a * s)) = [⟨(a : Int), T + (1 + a * s), a + 1⟩] ∧ leftL (busy T s a (n + 1)) (T + (1 + a * s)) = busy T s (a + 1) n := by
  have e : busy T s a (n + 1) = ⟨(a : Int), T + (1 + a * s), a + 1⟩ :: busy T s (a + 1) n := by
    unfold busy
    rw [List.range'_succ]
    rfl
  have hlt : T + (1 + a * s) < T + (1 + (a + 1) * s) := by rw [Nat.add_mul]; omega
  obtain ⟨h1, h2⟩ := busy_no (n := n) hlt
  unfold dueL leftL at *
  rw [e, List.filter_cons, List.filter_cons, h1, h2]
  simp

set_option maxRecDepth 100000 in
set_option maxHeartbeats 3200000 in
theorem busy_any (w : World) (frm : Int) (hf1 : -9223372036854775808 ≤ frm) (hf2 : frm ≤ 9223372036854775807) (step : Int) (hp1 : -9223372036854775808 ≤ step) (hp2 : step ≤ 9223372036854775807) :
    Calls Try.prog 3 #[.int .i64 frm, .int .i64 step] w fun e w' => e = .returned (.bool true) ∧ Below w.heap.size w w' := by
  go_enter Try.func3, Try.ntmps3
  go_wp2_with fail
  refine (awake_any _).mono ?_
  rintro e w1 ⟨rfl, hB1⟩
  have H1 := Lib.hid hB1
  clear hB1
  go_wp2_with fail
  refine (whl_new _).mono ?_
  rintro e w2 ⟨rfl, h2, f2⟩
  have h2 := h2.mono (G := fun i => w.heap.size ≤ i) fun i _ hi => Nat.le_trans H1.out.size hi
  have B2 := Lib.hid (below_fr H1.out f2 H1.out.size fun _ h => h.elim)
  clear f2
  generalize w1.heap.size + 1 = b at *
  go_upto_if 23 with fail
  go_cut [0] (fun v wx => ∃ f : Nat, f ≤ 9223372036854775807 ∧ v = .int .i64 (f : Int) ∧ wx = w2)
  case first =>
    by_cases hneg : frm < 0
    · go_wp2_with fail
      go_meet
      exact ⟨(-(frm + 1)).toNat, by omega, by rw [Int.toNat_of_nonneg (by omega)], rfl⟩
    · go_wp2_with fail
      go_meet
      exact ⟨frm.toNat, by omega, by rw [Int.toNat_of_nonneg (by omega)], rfl⟩
  case rest =>
    obtain ⟨f, hf, rfl, rfl⟩ := hcut
    go_upto_if 28 with fail
    go_cut [1] (fun v wx => ∃ s : Nat, s ≤ 9223372036854775807 ∧ v = .int .i64 (s : Int) ∧ wx = wc)
    case first =>
      by_cases hneg : step < 0
      · go_wp2_with fail
        go_meet
        exact ⟨(-(step + 1)).toNat, by omega, by rw [Int.toNat_of_nonneg (by omega)], rfl⟩
      · go_wp2_with fail
        go_meet
        exact ⟨step.toNat, by omega, by rw [Int.toNat_of_nonneg (by omega)], rfl⟩
    case rest =>
      obtain ⟨s0, hs0, rfl, rfl⟩ := hcut
      go_wp2_with fail
      have hW := Lib.hid h2
      clear h2
      go_loopw [7] (fun i wr => ∃ j : Nat, j ≤ f % 5000 ∧ i = .int .i64 (j : Int) ∧ Whl wr b (fun i => w.heap.size ≤ i) j 0 [] ∧ Below w.heap.size w wr) (fun i _ => 5000 - (intOf i).toNat)
      case atStart => exact ⟨0, Nat.zero_le _, rfl, hW.out, B2.out⟩
      case round =>
        obtain ⟨j, hj, rfl, hw, hB⟩ := hrel
        have HB := Lib.hid hB
        clear hB
        by_cases hjn : j < f % 5000
        · have HT := Lib.hid (whl_tick hw (by omega))
          clear hw
          go_wp2_with fail
          refine HT.out.mono ?_
          rintro e w3 ⟨R, rc, rfl, o3, h3, f3, n3⟩
          have HW3 := Lib.hid (h3.mono (G := fun i => w.heap.size ≤ i) fun i _ hi => fn_mono (fun _ h => h) HB.out.size i hi.1)
          have HB3 := Lib.hid (below_fr HB.out f3 HB.out.size fun _ h => h)
          clear o3 h3 f3 n3
          have ed : (dueL [] (j + 1)).length = 0 := rfl
          rw [ed]
          clear ed
          go_wp2_with fail
          go_roundw
          case rel => exact ⟨j + 1, by omega, by go_num, HW3.out, HB3.out⟩
          case measure => simp [intOf]; omega
        · obtain rfl : j = f % 5000 := by omega
          obtain ⟨T, hT⟩ : ∃ T, T = f % 5000 := ⟨_, rfl⟩
          obtain ⟨s, hs⟩ : ∃ s, s = 1 + s0 % 300 := ⟨_, rfl⟩
          rw [← hT] at hw
          have HW := Lib.hid hw
          have hTb : T < 5000 := by omega
          have hs1 : 1 ≤ s := by omega
          have hs2 : s ≤ 300 := by omega
          have HS := Lib.hid hs
          clear hw hT hs hW
          go_upto_block 2 with fail
          rw [show (1 + (s0 : Int) % 300) = (s : Int) from by have := HS.out; omega]
          have hs3 : (1 : Int) ≤ (s : Int) := by omega
          have hs4 : (s : Int) ≤ 300 := by omega
          go_cut [8] (fun v8 wx => ∃ k : Nat, v8 = .int .i64 (k : Int) ∧ k ≤ 200 ∧ (k = 0 ∨ (k - 1) * s ≤ 4094) ∧ Whl wx b (fun i => w.heap.size ≤ i) T k (busy T s 0 k) ∧ Below w.heap.size w wx)
          case first =>
            go_wp2_with fail
            go_loopw [8, 9] (fun v8 v9 wr => ∃ k : Nat, v8 = .int .i64 (k : Int) ∧ v9 = .int .i64 (k : Int) ∧ k ≤ 200 ∧ (k = 0 ∨ (k - 1) * s ≤ 4094) ∧ Whl wr b (fun i => w.heap.size ≤ i) T k (busy T s 0 k) ∧ Below w.heap.size w wr) (fun _ i _ => 200 - (intOf i).toNat)
            case atStart => exact ⟨0, rfl, rfl, by omega, .inl rfl, HW.out, HB.out⟩
            case round =>
              obtain ⟨k, rfl, rfl, hk, hks, hw, hB2⟩ := hrel
              have HB2 := Lib.hid hB2
              have HKS := Lib.hid hks
              have hm0 : (0 : Int) ≤ (k : Int) * (s : Int) := Int.mul_nonneg (by omega) (by omega)
              have hm1 : (k : Int) * (s : Int) ≤ 200 * 300 := Int.mul_le_mul (by omega) (by omega) (by omega) (by omega)
              clear hB2 hks HW HB
              by_cases hgo : k < 200 ∧ 1 + (k : Int) * (s : Int) ≤ 4095
              · obtain ⟨hk2, hk3⟩ := hgo
                have hks2 : k * s ≤ 4094 := by
                  have e : ((k * s : Nat) : Int) = (k : Int) * (s : Int) := Int.natCast_mul k s
                  omega
                have HA := Lib.hid (whl_add_ok hw (by omega) (by omega) (k : Int) (1 + k * s) (by omega) (by omega) (by omega) (by omega) (busy_new T s k) (by rw [busy_len]; omega))
                have HE := Lib.hid (show (1 + (k : Int) * (s : Int)) = ((1 + k * s : Nat) : Int) by rw [Int.natCast_add, Int.natCast_mul]; rfl)
                clear hw
                go_wp2_with fail
                rw [HE.out]
                refine HA.out.mono ?_
                rintro e w3 ⟨rfl, h3, f3⟩
                rw [busy_snoc] at h3
                have HW3 := Lib.hid (h3.mono (G := fun i => w.heap.size ≤ i) fun i _ hi => fn_mono (fun _ h => h) HB2.out.size i hi)
                have HB3 := Lib.hid (below_fr HB2.out f3 HB2.out.size fun _ h => h)
                clear h3 f3
                rw [← HE.out]
                go_wp2_with fail
                go_roundw
                case rel => (repeat apply Exists.intro); exact ⟨⟨k + 1, by go_num, by go_num, by omega, .inr hks2, HW3.out, HB3.out⟩, rfl⟩
                case measure => simp [intOf]; omega
              · have HW4 := Lib.hid hw
                clear hw
                by_cases hk2 : k < 200
                · have hk3 : 4095 < 1 + (k : Int) * (s : Int) := by omega
                  clear hgo
                  go_wp2_with fail
                  go_meet
                  exact ⟨k, rfl, hk, HKS.out, HW4.out, HB2.out⟩
                · clear hgo
                  go_wp2_with fail
                  go_meet
                  exact ⟨k, rfl, hk, HKS.out, HW4.out, HB2.out⟩
          case rest =>
            obtain ⟨n, rfl, hn, hns, hw, hB2⟩ := hcut
            have HW2 := Lib.hid hw
            have HB2 := Lib.hid hB2
            have HNS := Lib.hid hns
            clear hw hB2 hns HW HB
            go_wp2_with fail
            go_loopw [11, 12] (fun v11 v12 wr => ∃ j k : Nat, v11 = .int .i64 (k : Int) ∧ v12 = .int .i64 ((j : Int) + 1) ∧ k ≤ n ∧ j ≤ 4096 ∧ (k < n → j ≤ k * s) ∧ (k = 0 ∨ (k - 1) * s < j) ∧ Whl wr b (fun i => w.heap.size ≤ i) (T + j) n (busy T s k (n - k)) ∧ Below w.heap.size w wr) (fun _ i _ => 5000 - (intOf i).toNat)
            case atStart => exact ⟨0, 0, rfl, rfl, Nat.zero_le _, by omega, fun _ => Nat.zero_le _, .inl rfl, HW2.out, HB2.out⟩
            case round =>
              obtain ⟨j, k, rfl, rfl, hk, hj, hjk, hkj, hw, hB3⟩ := hrel
              have HB3 := Lib.hid hB3
              have HJK := Lib.hid hjk
              have HKJ := Lib.hid hkj
              clear hB3 hjk hkj HW2 HB2
              by_cases hkn : k < n
              · have hjb : j ≤ 4094 := by
                  have h1 := HJK.out hkn
                  have h2 := Nat.mul_le_mul_right s (show k ≤ n - 1 by omega)
                  rcases HNS.out with h3 | h3 <;> omega
                have HT := Lib.hid (whl_tick hw (by omega))
                obtain ⟨mm, hmm⟩ : ∃ mm, n - k = mm + 1 := ⟨n - k - 1, by omega⟩
                clear hw
                by_cases hjs : j = k * s
                · have hbz : (((j : Int) % (s : Int)) == 0) = true := by rw [beq_iff_eq, hjs, Int.natCast_mul]; exact Int.mul_emod_left _ _
                  have hdv : (j : Int) / (s : Int) = (k : Int) := by rw [hjs, Int.natCast_mul]; exact Int.mul_ediv_cancel _ (by omega)
                  have hlt2 : (j : Int) / (s : Int) < (n : Int) := by rw [hdv]; omega
                  have hge2 : 0 ≤ (j : Int) / (s : Int) := by rw [hdv]; omega
                  have HDV := Lib.hid hdv
                  obtain ⟨e1, e2⟩ := busy_yes (T := T) (s := s) (a := k) (n := mm) hs1
                  rw [← hmm, show T + (1 + k * s) = T + j + 1 by omega] at e1
                  rw [← hmm, show T + (1 + k * s) = T + j + 1 by omega, show mm = n - (k + 1) by omega] at e2
                  have HE1 := Lib.hid e1
                  have HE2 := Lib.hid e2
                  have HJS := Lib.hid hjs
                  clear hdv e1 e2 hjs hmm
                  go_wp2_with fail
                  refine HT.out.mono ?_
                  rintro e w3 ⟨R, rc, rfl, o3, h3, f3, n3⟩
                  rw [HE1.out] at o3
                  rw [HE1.out]
                  rw [HE2.out] at h3
                  have HW3 := Lib.hid (h3.mono (G := fun i => w.heap.size ≤ i) fun i _ hi => fn_mono (fun _ h => h) HB3.out.size i hi.1)
                  have HB4 := Lib.hid (below_fr HB3.out f3 HB3.out.size fun _ h => h)
                  have HO3 := Lib.hid o3
                  clear o3 h3 f3 n3
                  go_wp2_with fail
                  rw [HDV.out]
                  refine (same_ints (xs := [(k : Int)]) (ys := [(k : Int)]) (HO3.out.fr (S := fun _ => False) ((Fr.refl _ _).alloc _) fun _ _ => id) (own_new w3 3 [.int .i64 (k : Int)] (by unfold maxLen; simp)) rfl rfl (by show 1 < 1152921504606846976; omega) true (by simp)).mono ?_
                  rintro e w4 ⟨rfl, q4, rfl⟩
                  go_wp2_with fail
                  go_roundw
                  case rel =>
                    (repeat apply Exists.intro)
                    exact ⟨⟨j + 1, k + 1, by go_num, by go_num, by omega, by omega, fun _ => by have := HJS.out; rw [Nat.add_mul]; omega, .inr (by have := HJS.out; show k * s < j + 1; omega), HW3.out.fr0 (((Fr.refl _ w3).alloc _).drewN q4), below_fr HB4.out (((Fr.refl (fun _ => False) w3).alloc _).drewN q4) HB4.out.size fun _ h => h.elim⟩, rfl⟩
                  case measure => simp [intOf]; omega
                · have hjlt : j < k * s := by have := HJK.out hkn; omega
                  have hbz : (((j : Int) % (s : Int)) == 0) = false := by
                    rw [beq_eq_false_iff_ne]
                    intro h0
                    have h1 : j % s = 0 := by have e : ((j % s : Nat) : Int) = (j : Int) % (s : Int) := Int.natCast_emod j s; omega
                    obtain ⟨q, hq⟩ := Nat.dvd_of_mod_eq_zero h1
                    rw [Nat.mul_comm] at hq
                    have hqk : q < k := by
                      rcases Nat.lt_or_ge q k with h2 | h2
                      · exact h2
                      · have := Nat.mul_le_mul_right s h2; omega
                    rcases HKJ.out with h3 | h3
                    · omega
                    · have := Nat.mul_le_mul_right s (show q ≤ k - 1 by omega); omega
                  obtain ⟨e1, e2⟩ := busy_no (T := T) (s := s) (a := k) (n := n - k) (x := T + j + 1) (by omega)
                  have HE1 := Lib.hid e1
                  have HE2 := Lib.hid e2
                  have HJL := Lib.hid hjlt
                  clear e1 e2 hjs hmm hjlt
                  go_wp2_with fail
                  refine HT.out.mono ?_
                  rintro e w3 ⟨R, rc, rfl, o3, h3, f3, n3⟩
                  rw [HE1.out]
                  rw [HE2.out] at h3
                  have HW3 := Lib.hid (h3.mono (G := fun i => w.heap.size ≤ i) fun i _ hi => fn_mono (fun _ h => h) HB3.out.size i hi.1)
                  have HB4 := Lib.hid (below_fr HB3.out f3 HB3.out.size fun _ h => h)
                  clear o3 h3 f3 n3
                  go_wp2_with fail
                  go_roundw
                  case rel =>
                    (repeat apply Exists.intro)
                    exact ⟨⟨j + 1, k, by go_num, by go_num, by omega, by omega, fun _ => by have := HJL.out; omega, by have := HKJ.out; omega, HW3.out, HB4.out⟩, rfl⟩
                  case measure => simp [intOf]; omega
              · obtain rfl : k = n := by omega
                rw [Nat.sub_self, busy_zero] at hw
                have HWL := Lib.hid (whl_len hw)
                clear hw
                go_wp2_with fail
                refine HWL.out.mono ?_
                rintro e w3 ⟨rfl, rfl⟩
                go_wp2_with fail
                go_ret
                exact ⟨rfl, HB3.out⟩
end Go.Proofs.Ytgmeebpgncenmaa
