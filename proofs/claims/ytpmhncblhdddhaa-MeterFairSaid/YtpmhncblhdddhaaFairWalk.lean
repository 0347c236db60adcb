/- MeterFair, walked. -/
import Derived.Test.YtpmhncblhdddhaaBoundWalk
namespace Go.Proofs.Ytpmhncblhdddhaa
open Go.RowKit

set_option maxRecDepth 100000 in
set_option maxHeartbeats 12800000 in
theorem fair_any (w : World) (rate : Int) (_ : -9223372036854775808 ≤ rate) (_ : rate ≤ 9223372036854775807) (burst : Int) (_ : -9223372036854775808 ≤ burst) (_ : burst ≤ 9223372036854775807)
    (A : Option Addr) (len cap : Nat) (hrd : Rd Try.prog w 28 [.slice A len cap]) (_ : len * Try.prog.bytesOf 37 ≤ 140737488351232) (frm : Int) (_ : -9223372036854775808 ≤ frm) (_ : frm ≤ 9223372036854775807) :
    Calls Try.prog 6 #[.int .i64 rate, .int .i64 burst, .slice A len cap, .int .i64 frm] w fun e w' => e = .returned (.bool true) ∧ Below w.heap.size w w' := by
  obtain ⟨r, hr⟩ : ∃ k : Nat, rate % 1024 = k := ⟨(rate % 1024).toNat, by omega⟩
  obtain ⟨u, hu⟩ : ∃ k : Nat, burst % 1024 = k := ⟨(burst % 1024).toNat, by omega⟩
  have hr3 : r ≤ 1023 := by omega
  have hu3 : u ≤ 1023 := by omega
  have hb1 := i64_and1023 rate
  have hb2 := i64_and1023 burst
  rw [hr] at hb1
  rw [hu] at hb2
  clear hr hu
  obtain ⟨hst, hlen⟩ := draws_in hrd
  have HST := Lib.hid hst
  clear hst hrd
  go_enter Try.func6, Try.ntmps6
  go_wp2_with fail
  refine (awake_any _).mono ?_
  rintro e w1 ⟨rfl, hB1⟩
  have H1 := Lib.hid hB1
  have hz1 := hB1.size
  clear hB1
  go_wp2_with fail
  refine (bucket_ok (1 + r) (1 + u) _ (by omega) (by omega)).mono ?_
  rintro e w2 ⟨rfl, hw2⟩
  have hT2 : Tok w2 w1.heap.size 49 (1 + r) (1 + u) (1 + u) := hw2 ▸ Blk.new w1 49 _
  have hB2 := Lib.hid (show Below w.heap.size w w2 from hw2 ▸ H1.out.alloc H1.out.size _)
  clear hw2 hb1 hb2
  generalize w1.heap.size = tb at *
  have hS1 : ∀ i, i = tb → w.heap.size ≤ i := fun i h => by omega
  go_upto_block 0 with fail
  go_cut [12] (fun _ wx => ∃ l : Nat, l ≤ 1 + u ∧ Tok wx tb 49 (1 + r) (1 + u) l ∧ Below w.heap.size w wx)
  case first =>
    go_wp2_with fail
    go_loopg [12] 100 (fun gk v12 wr => ∃ (j l : Nat), j + gk = 100 ∧ j ≤ len ∧ v12 = .int .i64 j ∧ l ≤ 1 + u ∧ Tok wr tb 49 (1 + r) (1 + u) l ∧ Below w.heap.size w wr)
    case atStart => exact ⟨0, 1 + u, rfl, Nat.zero_le _, rfl, Nat.le_refl _, hT2, hB2.out⟩
    case round =>
      obtain ⟨j, l, hj, hjl, rfl, hlu, hT, hBr⟩ := hrel
      have HJ := Lib.hid hj
      have HBr := Lib.hid hBr
      have hj2 : j ≤ 100 := by omega
      clear hj hBr hT2
      by_cases hlt : j < len
      · by_cases hlt2 : j < 100
        · obtain ⟨sb, so, rfl, hsb, hi⟩ := (HST.out.below HBr.out) (by omega)
          obtain ⟨x, n, ⟨hn1, hn2⟩, c0, c1⟩ := hi j hlt
          clear hi
          cases x with
          | true =>
            go_wp2_with fail
            refine (tick_any tb (1 + r) (1 + u) l _ hT (by omega) (by omega)).mono ?_
            rintro e w4 ⟨rfl, hT4, hF4⟩
            have HB4 := Lib.hid (below_fr HBr.out hF4 HBr.out.size hS1)
            clear hF4
            go_wp2_with fail
            go_roundg (gk - 1)
            case measure => have := HJ.out; omega
            case rel =>
              have h1 := HJ.out
              exact ⟨j + 1, _, by omega, by omega, by go_num, Nat.min_le_right _ _, hT4, HB4.out⟩
          | false =>
            by_cases hn0 : n < 0 ∨ (l : Int) < n
            · have P1 := Lib.hid (take_no tb (1 + r) (1 + u) l n wr hT hn0)
              clear hn0
              go_wp2_with fail
              refine P1.out.mono ?_
              rintro e w5 ⟨rfl, rfl⟩
              go_wp2_with fail
              go_roundg (gk - 1)
              case measure => have := HJ.out; omega
              case rel =>
                have h1 := HJ.out
                exact ⟨j + 1, l, by omega, by omega, by go_num, hlu, hT, HBr.out⟩
            · obtain ⟨m, rfl⟩ : ∃ m : Nat, n = m := ⟨n.toNat, by omega⟩
              have P1 := Lib.hid (take_yes tb (1 + r) (1 + u) l m wr hT (by omega) (by omega))
              clear hn0
              go_wp2_with fail
              refine P1.out.mono ?_
              rintro e w5 ⟨rfl, hT5, hF5⟩
              have HB5 := Lib.hid (below_fr HBr.out hF5 HBr.out.size hS1)
              clear hF5
              go_wp2_with fail
              go_roundg (gk - 1)
              case measure => have := HJ.out; omega
              case rel =>
                have h1 := HJ.out
                exact ⟨j + 1, l - m, by omega, by omega, by go_num, by omega, hT5, HB5.out⟩
        · go_wp2_with fail
          go_meet
          exact ⟨l, hlu, hT, HBr.out⟩
      · go_wp2_with fail
        go_meet
        exact ⟨l, hlu, hT, HBr.out⟩
  case rest =>
    obtain ⟨l0, hl0, hT0, hB0⟩ := hcut
    have HB0 := Lib.hid hB0
    clear hB0 hT2
    go_upto_if 62 with fail
    go_cut [3] (fun v3 wx => ∃ F : Nat, v3 = .int .i64 F ∧ wx = wc)
    case first =>
      by_cases hneg : frm < 0
      · go_wp2_with fail
        go_meet
        exact ⟨(-(frm + 1)).toNat, by rw [Int.toNat_of_nonneg (by omega)], rfl⟩
      · go_wp2_with fail
        go_meet
        exact ⟨frm.toNat, by rw [Int.toNat_of_nonneg (by omega)], rfl⟩
    case rest =>
      obtain ⟨F0, rfl, hwc⟩ := hcut
      subst hwc
      go_upto_region 15 with fail
      go_cut [3] (fun v3 wx => ∃ n : Nat, v3 = .int .i64 n ∧ n ≤ 1 + u ∧ wx = wc)
      case first =>
        go_wp2_with fail
        go_meet
        have hlt : F0 % (u + 2) < u + 2 := Nat.mod_lt _ (by omega)
        exact ⟨F0 % (u + 2), by
          rw [Int.natCast_emod, show ((u + 2 : Nat) : Int) = 1 + (u : Int) + 1 from by omega], by omega, rfl⟩
      case rest =>
        obtain ⟨n, rfl, hnu, hwc⟩ := hcut
        subst hwc
        go_wp2_with fail
        go_loopg [13] (1 + u - l0) (fun gk v13 wr => ∃ (k l : Nat), l + gk = 1 + u ∧ k ≤ l ∧ v13 = .int .i64 k ∧ Tok wr tb 49 (1 + r) (1 + u) l ∧ Below w.heap.size w wr)
        case atStart => exact ⟨0, l0, by omega, Nat.zero_le _, rfl, hT0, HB0.out⟩
        case round =>
          obtain ⟨k, l, hl, hkl, rfl, hT, hBr⟩ := hrel
          have HL := Lib.hid hl
          have HBr := Lib.hid hBr
          have hl2 : l ≤ 1 + u := by omega
          clear hl hBr hT0
          by_cases hln : l < n
          · have P1 := Lib.hid (take_no tb (1 + r) (1 + u) l n wr hT (by omega))
            go_wp2_with fail
            refine (level_any tb _ _ l _ hT).mono ?_
            rintro e w5 ⟨rfl, rfl⟩
            go_wp2_with fail
            refine P1.out.mono ?_
            rintro e w5 ⟨rfl, rfl⟩
            go_wp2_with fail
            refine (tick_any tb (1 + r) (1 + u) l _ hT (by omega) (by omega)).mono ?_
            rintro e w4 ⟨rfl, hT4, hF4⟩
            have HB4 := Lib.hid (below_fr HBr.out hF4 HBr.out.size hS1)
            clear hF4
            go_wp2_with fail
            go_roundg (1 + u - min (l + (1 + r)) (1 + u))
            case measure => have := HL.out; omega
            case rel => exact ⟨k + 1, min (l + (1 + r)) (1 + u), by omega, by omega, by go_num, hT4, HB4.out⟩
          · have P1 := Lib.hid (take_yes tb (1 + r) (1 + u) l n wr hT (by omega) (by omega))
            go_wp2_with fail
            refine (level_any tb _ _ l _ hT).mono ?_
            rintro e w5 ⟨rfl, rfl⟩
            go_wp2_with fail
            refine P1.out.mono ?_
            rintro e w5 ⟨rfl, hT5, hF5⟩
            have HB5 := Lib.hid (below_fr HBr.out hF5 HBr.out.size hS1)
            clear hF5
            go_wp2_with fail
            go_ret
            exact ⟨rfl, HB5.out⟩
end Go.Proofs.Ytpmhncblhdddhaa
