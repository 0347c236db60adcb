/- MeterTokens, walked. -/
import Derived.Test.YtpmhncblhdddhaaAwake
import Derived.Test.YtpmhncblhdddhaaDraws
import Derived.Deep.DeepCutAuto
import Derived.Deep.LoopGhost
import Derived.Deep.CutBlock
import Derived.Deep.RegionWith
namespace Go.Proofs.Ytpmhncblhdddhaa
open Go.RowKit

theorem take_pair (tb ub r u l : Nat) (n : Int) (hl : l ≤ 1048576) : ∃ (bb : Bool) (l' : Nat), l' ≤ l ∧
    (∀ W, Tok W tb 49 r u l → Calls Try.prog 13 #[.pointer (some ⟨tb, 0, none⟩), .int .i64 n] W fun e w' => e = .returned (.bool bb) ∧ Tok w' tb 49 r u l' ∧ Fr (fun i => i = tb) W w') ∧
    (∀ W, Tok W ub 35 r u l → Calls Try.prog 14 #[.pointer (some ⟨ub, 0, none⟩), .int .i64 n] W fun e w' => e = .returned (.bool bb) ∧ Tok w' ub 35 r u l' ∧ Fr (fun i => i = ub) W w') := by
  by_cases hn : n < 0 ∨ (l : Int) < n
  · exact ⟨false, l, Nat.le_refl _, fun W h => (take_no tb r u l n W h hn).mono fun e w' hh => ⟨hh.1, hh.2 ▸ h, hh.2 ▸ Fr.refl _ _⟩, fun W h => (rtake_no ub r u l n W h hn).mono fun e w' hh => ⟨hh.1, hh.2 ▸ h, hh.2 ▸ Fr.refl _ _⟩⟩
  · obtain ⟨m, rfl⟩ : ∃ m : Nat, n = m := ⟨n.toNat, by omega⟩
    exact ⟨true, l - m, by omega, fun W h => take_yes tb r u l m W h (by omega) hl, fun W h => rtake_yes ub r u l m W h (by omega) hl⟩

set_option maxRecDepth 100000 in
set_option maxHeartbeats 6400000 in
theorem tokens_yes (w : World) (r u : Nat) (hr : r ≤ 1048576) (hu : u ≤ 1048576) (A : Option Addr) (len cap : Nat) (hst : DrawsIn w A len) (hlen : len ≤ 9223372036854775807) :
    Calls Try.prog 4 #[.int .i64 r, .int .i64 u, .slice A len cap] w fun e w' => e = .returned (.bool true) ∧ Below w.heap.size w w' := by
  have HST := Lib.hid hst
  clear hst
  have hr1 : (r : Int) ≤ 1048576 := by omega
  have hu1 : (u : Int) ≤ 1048576 := by omega
  have hr0 : (0 : Int) ≤ r := by omega
  have hu0 : (0 : Int) ≤ u := by omega
  go_enter Try.func4, Try.ntmps4
  go_wp2_with fail
  refine (awake_any _).mono ?_
  rintro e w1 ⟨rfl, hB1⟩
  have H1 := Lib.hid hB1
  have hz1 := hB1.size
  clear hB1
  go_wp2_with fail
  refine (bucket_ok r u _ hr hu).mono ?_
  rintro e w2 ⟨rfl, hw2⟩
  have hT2 : Tok w2 w1.heap.size 49 r u u := hw2 ▸ Blk.new w1 49 _
  have hB2 := Lib.hid (show Below w.heap.size w w2 from hw2 ▸ H1.out.alloc H1.out.size _)
  have hz2 : w2.heap.size = w1.heap.size + 1 := by rw [← hw2]; simp
  clear hw2
  have hT3 := hT2
  generalize w1.heap.size = tb at *
  have HZ2 := Lib.hid hz2
  clear hT3
  go_upto_block 0 with fail
  have hT3 : Tok (w2.alloc (.cells #[.int .i64 (r : Int), .int .i64 (u : Int), .int .i64 (u : Int)] 35)) tb 49 r u u := Blk.alloc hT2 _
  have hU3 : Tok (w2.alloc (.cells #[.int .i64 (r : Int), .int .i64 (u : Int), .int .i64 (u : Int)] 35)) (tb + 1) 35 r u u := hz2 ▸ Blk.new w2 35 _
  have hB3 := Lib.hid (hB2.out.alloc hB2.out.size (.cells #[.int .i64 (r : Int), .int .i64 (u : Int), .int .i64 (u : Int)] 35))
  clear hT2
  generalize w2.alloc (.cells #[.int .i64 (r : Int), .int .i64 (u : Int), .int .i64 (u : Int)] 35) = w3 at *
  clear hz2
  have hS1 : ∀ i, i = tb → w.heap.size ≤ i := fun i h => by omega
  have hS2 : ∀ i, i = tb + 1 → w.heap.size ≤ i := fun i h => by omega
  go_wp2_with fail
  go_loopg [12] 200 (fun gk i wr => ∃ (j l : Nat), j + gk = 200 ∧ j ≤ len ∧ i = .int .i64 j ∧ l ≤ u ∧ Tok wr tb 49 r u l ∧ Tok wr (tb + 1) 35 r u l ∧ Below w.heap.size w wr)
  case atStart => exact ⟨0, u, rfl, Nat.zero_le _, rfl, Nat.le_refl _, hT3, hU3, hB3.out⟩
  case round =>
    obtain ⟨j, l, hj, hjl, rfl, hlu, hT, hU, hBr⟩ := hrel
    have HJ := Lib.hid hj
    have HBr := Lib.hid hBr
    have hj2 : j ≤ 200 := by omega
    clear hj hBr hT3 hU3
    by_cases hlt : j < len
    · by_cases hlt2 : j < 200
      · obtain ⟨sb, so, rfl, hsb, hi⟩ := (HST.out.below HBr.out) (by omega)
        obtain ⟨x, n, ⟨hn1, hn2⟩, c0, c1⟩ := hi j hlt
        have hsw : sb < w.heap.size := by
          obtain ⟨b', o', h1, h2, _⟩ := HST.out (by omega)
          injection h1 with h1
          injection h1 with h1
          omega
        clear hi
        go_upto_if 78 with fail
        go_cut [6] (fun _ wx => ∃ l : Nat, l ≤ u ∧ Tok wx tb 49 r u l ∧ Tok wx (tb + 1) 35 r u l ∧ Below w.heap.size w wx)
        case first =>
          cases x with
          | true =>
            go_wp2_with fail
            refine (tick_any tb r u l _ hT (by omega) (by omega)).mono ?_
            rintro e w4 ⟨rfl, hT4, hF4⟩
            have hU4 := hU.fr hF4 (show ¬ tb + 1 = tb by omega)
            go_wp2_with fail
            refine (rtick_any (tb + 1) r u l _ hU4 (by omega) (by omega)).mono ?_
            rintro e w5 ⟨rfl, hU5, hF5⟩
            go_wp2_with fail
            go_meet
            exact ⟨min (l + r) u, Nat.min_le_right _ _, hT4.fr hF5 (show ¬ tb = tb + 1 by omega), hU5, below_fr (below_fr HBr.out hF4 HBr.out.size hS1) hF5 (Nat.le_trans HBr.out.size hF4.size) hS2⟩
          | false =>
            obtain ⟨bb, l', hl', hp1, hp2⟩ := take_pair tb (tb + 1) r u l n (by omega)
            have P1 := Lib.hid hp1
            have P2 := Lib.hid hp2
            have hTD : Tok wr.drew tb 49 r u l := hT
            have hUD : Tok wr.drew (tb + 1) 35 r u l := hU
            have hj0 : (0 : Int) ≤ j := by omega
            have hjn : (j : Int) < len := by omega
            clear hp1 hp2
            go_wp2_with fail
            go_region_with (first
              | (go_at_call 13; refine (P1.out _ hTD).mono ?_; rintro e w5 ⟨rfl, hT5, hF5⟩; have d1 := (hF5.cell (p := ⟨sb, so + j * 2 + 1, none⟩) hsb (show ¬ sb = tb by omega)).trans c1; have hU5 := hUD.fr hF5 (show ¬ tb + 1 = tb by omega))
              | (go_at_call 14; refine (P2.out _ hU5).mono ?_; rintro e w6 ⟨rfl, hU6, hF6⟩))
            all_goals
              go_wp2_with fail
              go_meet
              exact ⟨l', by omega, hT5.fr hF6 (show ¬ tb = tb + 1 by omega), hU6, below_fr (below_fr HBr.out (show Fr (fun i => i = tb) wr w5 from ((Fr.refl _ wr).drew).trans hF5) HBr.out.size hS1) hF6 (Nat.le_trans HBr.out.size hF5.size) hS2⟩
        case rest =>
          obtain ⟨l', hl', hT5, hU5, hB5⟩ := hcut
          have u2 : wc.cell? ⟨tb + 1, 2, none⟩ = some (.int .i64 (l' : Int)) := Blk.cell hU5 2
          have L := Lib.hid (fun i => level_any tb r u l' (wc.drewN i) hT5)
          have HT5 := Lib.hid hT5
          have HU5 := Lib.hid hU5
          have HB5 := Lib.hid hB5
          clear hT5 hU5 hB5 hT hU
          go_wp2_with fail
          go_quiet ((go_at_call 15; exact Calls.quiet_of_same (left_same (L.out _))))
          go_wp2_with fail
          go_roundg (gk - 1)
          case measure => have := HJ.out; omega
          case rel =>
            have h1 := HJ.out
            exact ⟨j + 1, l', by omega, by omega, by go_num, hl', HT5.out, HU5.out, ⟨HB5.out.os, HB5.out.tape, HB5.out.output, HB5.out.size, HB5.out.block⟩⟩
      · go_wp2_with fail
        go_ret
        exact ⟨rfl, HBr.out⟩
    · go_wp2_with fail
      go_ret
      exact ⟨rfl, HBr.out⟩
end Go.Proofs.Ytpmhncblhdddhaa
