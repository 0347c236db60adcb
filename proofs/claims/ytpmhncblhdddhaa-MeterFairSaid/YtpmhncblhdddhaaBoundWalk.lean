/- MeterBound, walked. -/
import Derived.Test.YtpmhncblhdddhaaAwake
import Derived.Test.YtpmhncblhdddhaaDraws
import Derived.Deep.DeepCutAuto
import Derived.Deep.LoopGhost
import Derived.Deep.CutBlock
namespace Go.Proofs.Ytpmhncblhdddhaa
open Go.RowKit

theorem Tok.drewN {w : World} {b T r u l : Nat} (h : Tok w b T r u l) (n : Nat) : Tok (w.drewN n) b T r u l := h

set_option maxRecDepth 100000 in
set_option maxHeartbeats 12800000 in
theorem bound_any (w : World) (rate : Int) (_ : -9223372036854775808 ≤ rate) (_ : rate ≤ 9223372036854775807) (burst : Int) (_ : -9223372036854775808 ≤ burst) (_ : burst ≤ 9223372036854775807)
    (A : Option Addr) (len cap : Nat) (hrd : Rd Try.prog w 28 [.slice A len cap]) (_ : len * Try.prog.bytesOf 37 ≤ 140737488351232) (frm : Int) (_ : -9223372036854775808 ≤ frm) (_ : frm ≤ 9223372036854775807) :
    Calls Try.prog 5 #[.int .i64 rate, .int .i64 burst, .slice A len cap, .int .i64 frm] w fun e w' => e = .returned (.bool true) ∧ Below w.heap.size w w' := by
  obtain ⟨r, hr⟩ : ∃ k : Nat, rate % 1024 = k := ⟨(rate % 1024).toNat, by omega⟩
  obtain ⟨u, hu⟩ : ∃ k : Nat, burst % 1024 = k := ⟨(burst % 1024).toNat, by omega⟩
  have hr3 : r ≤ 1023 := by omega
  have hu3 : u ≤ 1023 := by omega
  have hb1 := i64_and1023 rate
  have hb2 := i64_and1023 burst
  rw [hr] at hb1
  rw [hu] at hb2
  clear hr hu
  obtain ⟨hst, hlen⟩ := draws_in hrd
  have HST := Lib.hid hst
  clear hst hrd
  go_enter Try.func5, Try.ntmps5
  go_wp2_with fail
  refine (awake_any _).mono ?_
  rintro e w1 ⟨rfl, hB1⟩
  have H1 := Lib.hid hB1
  have hz1 := hB1.size
  clear hB1
  go_wp2_with fail
  refine (bucket_ok r u _ (by omega) (by omega)).mono ?_
  rintro e w2 ⟨rfl, hw2⟩
  have hT2 : Tok w2 w1.heap.size 49 r u u := hw2 ▸ Blk.new w1 49 _
  have hB2 := Lib.hid (show Below w.heap.size w w2 from hw2 ▸ H1.out.alloc H1.out.size _)
  clear hw2 hb1 hb2
  generalize w1.heap.size = tb at *
  have hS1 : ∀ i, i = tb → w.heap.size ≤ i := fun i h => by omega
  go_upto_if 39 with fail
  go_cut [3] (fun v3 wx => ∃ F : Nat, v3 = .int .i64 F ∧ wx = w2)
  case first =>
    by_cases hneg : frm < 0
    · go_wp2_with fail
      go_meet
      exact ⟨(-(frm + 1)).toNat, by rw [Int.toNat_of_nonneg (by omega)], rfl⟩
    · go_wp2_with fail
      go_meet
      exact ⟨frm.toNat, by rw [Int.toNat_of_nonneg (by omega)], rfl⟩
  case rest =>
    obtain ⟨F0, rfl, rfl⟩ := hcut
    go_wp2_with fail
    go_loopg [12, 13, 14] 200 (fun gk v12 v13 v14 wr => ∃ (j q t l : Nat), j + gk = 200 ∧ j ≤ len ∧ v12 = .int .i64 t ∧ v13 = .int .i64 q ∧ v14 = .int .i64 j ∧ q ≤ j ∧ l ≤ u ∧ (t : Int) + l ≤ (u : Int) + (r : Int) * q ∧ (j ≤ F0 % 100 → t = 0) ∧ (r : Int) * q ≤ 204600 ∧ 0 ≤ (r : Int) * q ∧ Tok wr tb 49 r u l ∧ Below w.heap.size w wr)
    case atStart => exact ⟨0, 0, 0, u, rfl, Nat.zero_le _, rfl, rfl, rfl, Nat.le_refl _, Nat.le_refl _, by simp, fun _ => rfl, by simp, by simp, hT2, hB2.out⟩
    case round =>
      obtain ⟨j, q, t, l, hj, hjl, rfl, rfl, rfl, hqj, hlu, hsum, hF, hrq, hrq0, hT, hBr⟩ := hrel
      have HJ := Lib.hid hj
      have HBr := Lib.hid hBr
      have HF := Lib.hid hF
      have hj2 : j ≤ 200 := by omega
      clear hj hBr hT2 hF
      by_cases hlt : j < len
      · by_cases hlt2 : j < 200
        · obtain ⟨sb, so, rfl, hsb, hi⟩ := (HST.out.below HBr.out) (by omega)
          obtain ⟨x, n, ⟨hn1, hn2⟩, c0, c1⟩ := hi j hlt
          have hsw : sb < w.heap.size := by
            obtain ⟨b', o', h1, h2, _⟩ := HST.out (by omega)
            injection h1 with h1
            injection h1 with h1
            omega
          have hj0 : (0 : Int) ≤ j := by omega
          have hjn : (j : Int) < len := by omega
          clear hi
          go_upto_if 59 with fail
          go_cut [12, 13] (fun v12 v13 wx => ∃ (q t l : Nat), v12 = .int .i64 t ∧ v13 = .int .i64 q ∧ q ≤ j + 1 ∧ l ≤ u ∧ (t : Int) + l ≤ (u : Int) + (r : Int) * q ∧ (j + 1 ≤ F0 % 100 → t = 0) ∧ (r : Int) * q ≤ 204600 ∧ 0 ≤ (r : Int) * q ∧ Tok wx tb 49 r u l ∧ Below w.heap.size w wx)
          case first =>
            cases x with
            | true =>
              go_wp2_with fail
              refine (tick_any tb r u l _ hT (by omega) (by omega)).mono ?_
              rintro e w4 ⟨rfl, hT4, hF4⟩
              have HB4 := Lib.hid (below_fr HBr.out hF4 HBr.out.size hS1)
              clear hF4 c0 c1
              have hm1 := Nat.min_le_left (l + r) u
              have hm2 := Nat.min_le_right (l + r) u
              by_cases hFj : F0 % 100 ≤ j
              · have hmul : (r : Int) * ((q + 1 : Nat) : Int) = (r : Int) * q + r := by rw [Int.natCast_add, Int.mul_add]; simp
                have hle : (r : Int) * ((q + 1 : Nat) : Int) ≤ 204600 := by
                  have h1 : r * (q + 1) ≤ 1023 * 200 := Nat.mul_le_mul hr3 (by omega)
                  have h2 : ((r * (q + 1) : Nat) : Int) ≤ 204600 := by omega
                  rwa [Int.natCast_mul] at h2
                have HM := Lib.hid hmul
                have HL := Lib.hid hle
                clear hmul hle
                go_wp2_with fail
                go_meet
                have h3 := HM.out
                have h4 := HL.out
                exact ⟨q + 1, t, min (l + r) u, rfl, by go_num, by omega, hm2, by rw [h3]; omega, fun h => HF.out (by omega), h4, by rw [h3]; omega, hT4, HB4.out⟩
              · go_wp2_with fail
                go_meet
                exact ⟨q, t, min (l + r) u, rfl, rfl, by omega, hm2, by have := HF.out (by omega); omega, fun _ => HF.out (by omega), hrq, hrq0, hT4, HB4.out⟩
            | false =>
              by_cases hn0 : n < 0
              · have P1 := Lib.hid (take_no tb r u l n wr hT (by omega))
                have hg : decide (0 ≤ n) = false := by simp; omega
                have L := Lib.hid (fun i => level_any tb r u l (wr.drewN i) hT)
                clear hn0
                go_wp2_with fail
                refine (level_any tb r u l _ hT).mono ?_
                rintro e w4 ⟨rfl, rfl⟩
                go_wp2_with fail
                refine P1.out.mono ?_
                rintro e w5 ⟨rfl, rfl⟩
                go_wp2_with fail
                go_quiet ((go_at_call 15; exact Calls.quiet_of_same (left_same (L.out _))))
                go_wp2_with fail
                go_meet
                exact ⟨q, t, l, rfl, rfl, by omega, hlu, hsum, fun _ => HF.out (by omega), hrq, hrq0, hT.drewN _, ⟨HBr.out.os, HBr.out.tape, HBr.out.output, HBr.out.size, HBr.out.block⟩⟩
              · by_cases hnl : (l : Int) < n
                · have P1 := Lib.hid (take_no tb r u l n wr hT (by omega))
                  have hg : 0 ≤ n := by omega
                  have hg2 : decide (n ≤ (l : Int)) = false := by simp; omega
                  have L := Lib.hid (fun i => level_any tb r u l (wr.drewN i) hT)
                  clear hn0
                  go_wp2_with fail
                  refine (level_any tb r u l _ hT).mono ?_
                  rintro e w4 ⟨rfl, rfl⟩
                  go_wp2_with fail
                  refine P1.out.mono ?_
                  rintro e w5 ⟨rfl, rfl⟩
                  go_wp2_with fail
                  go_quiet ((go_at_call 15; exact Calls.quiet_of_same (left_same (L.out _))))
                  go_wp2_with fail
                  go_meet
                  exact ⟨q, t, l, rfl, rfl, by omega, hlu, hsum, fun _ => HF.out (by omega), hrq, hrq0, hT.drewN _, ⟨HBr.out.os, HBr.out.tape, HBr.out.output, HBr.out.size, HBr.out.block⟩⟩
                · obtain ⟨m, rfl⟩ : ∃ m : Nat, n = m := ⟨n.toNat, by omega⟩
                  have P1 := Lib.hid (take_yes tb r u l m wr hT (by omega) (by omega))
                  have hm1 : (0 : Int) ≤ m := by omega
                  have hm2 : (m : Int) ≤ l := by omega
                  clear hn0 hnl
                  go_wp2_with fail
                  refine (level_any tb r u l _ hT).mono ?_
                  rintro e w4 ⟨rfl, rfl⟩
                  go_wp2_with fail
                  refine P1.out.mono ?_
                  rintro e w5 ⟨rfl, hT5, hF5⟩
                  have d1 := (hF5.cell (p := ⟨sb, so + j * 2 + 1, none⟩) hsb (show ¬ sb = tb by omega)).trans c1
                  have HB5 := Lib.hid (below_fr HBr.out hF5 HBr.out.size hS1)
                  have L := Lib.hid (fun i => level_any tb r u (l - m) (w5.drewN i) hT5)
                  rw [show ((l - m : Nat) : Int) = (l : Int) - m from by omega] at L
                  clear hF5
                  go_wp2_with fail
                  go_quiet ((go_at_call 15; exact Calls.quiet_of_same (left_same (L.out _))))
                  by_cases hFj : F0 % 100 ≤ j
                  · go_wp2_with fail
                    go_meet
                    exact ⟨q, t + m, l - m, by go_num, rfl, by omega, by omega, by omega, fun h => by omega, hrq, hrq0, hT5.drewN _, ⟨HB5.out.os, HB5.out.tape, HB5.out.output, HB5.out.size, HB5.out.block⟩⟩
                  · go_wp2_with fail
                    go_meet
                    exact ⟨q, t, l - m, rfl, rfl, by omega, by omega, by omega, fun _ => HF.out (by omega), hrq, hrq0, hT5.drewN _, ⟨HB5.out.os, HB5.out.tape, HB5.out.output, HB5.out.size, HB5.out.block⟩⟩
          case rest =>
            obtain ⟨q', t', l', rfl, rfl, hq5, hl5, hs5, hF5, hr5, hr50, hT5, hB5⟩ := hcut
            have HB5 := Lib.hid hB5
            have HF5 := Lib.hid hF5
            have hg1 : ¬ ((u : Int) + (r : Int) * q' < t') := by omega
            clear hB5 hF5 hT
            go_wp2_with fail
            refine (level_any tb r u l' _ hT5).mono ?_
            rintro e w6 ⟨rfl, rfl⟩
            go_wp2_with fail
            refine (level_any tb r u l' _ hT5).mono ?_
            rintro e w7 ⟨rfl, rfl⟩
            go_wp2_with fail
            go_roundg (gk - 1)
            case measure => have := HJ.out; omega
            case rel =>
              have h1 := HJ.out
              exact ⟨j + 1, q', t', l', by omega, by omega, rfl, rfl, by go_num, hq5, hl5, hs5, HF5.out, hr5, hr50, hT5, HB5.out⟩
        · go_wp2_with fail
          go_ret
          exact ⟨rfl, HBr.out⟩
      · go_wp2_with fail
        go_ret
        exact ⟨rfl, HBr.out⟩
end Go.Proofs.Ytpmhncblhdddhaa
