/- RingPlays, walked. -/
import Derived.Test.YteggdpkjbbjcdaaAwake
import Derived.Test.YteggdpkjbbjcdaaRef
import Derived.Deep.DeepCutAuto
import Derived.Deep.LoopGhost
import Derived.Deep.CutBlock
import Derived.Deep.RegionWith
namespace Go.Proofs.Yteggdpkjbbjcdaa
open Go.RowKit

/-- A push to both: both answer alike, and hold alike. -/
theorem push_pair (b g q m o : Nat) (all : List ByteArray) (s : ByteArray) (hoa : o ≤ all.length) (hl : all.length ≤ 400) (hm : m ≤ 65536) (hlm : all.length - o ≤ m) :
    ∃ (bb : Bool) (all' : List ByteArray), o ≤ all'.length ∧ all'.length ≤ all.length + 1 ∧
      (∀ W, RingIs W b g 67 9 m o (strs (all.drop o)) → Calls Try.prog 12 #[.pointer (some ⟨b, 0, none⟩), .string s] W fun e w' => e = .returned (.bool bb) ∧ RingIs w' b g 67 9 m o (strs (all'.drop o)) ∧ Fr (fun i => i = b ∨ i = g) W w') ∧
      (∀ W, RefIs W (q + 1) q m o all → Calls Try.prog 13 #[.pointer (some ⟨q, 0, none⟩), .string s] W fun e w' => e = .returned (.bool bb) ∧ RefIs w' (q + 1) q m o all' ∧ Fr (fun i => i = q ∨ q + 1 ≤ i) W w') := by
  have e1 : (strs (all.drop o)).length = all.length - o := by rw [strs_len, List.length_drop]
  by_cases hlt : all.length - o < m
  · refine ⟨true, all ++ [s], by simp; omega, by simp, fun W hR => (push_str b g m o _ s W hR (by rw [e1]; omega)).mono fun e w' ⟨he, h1, h2⟩ => ⟨?_, ?_, h2⟩, fun W hR => (rpush_any (q + 1) q m o all s W hR hoa (by omega) (by omega) hm).mono fun e w' ⟨he, h1, h2⟩ => ⟨?_, ?_, h2⟩⟩
    · rw [he, e1]; simp [hlt]
    · rw [e1, if_pos hlt, strs_add] at h1
      rw [List.drop_append_of_le_length hoa]
      exact h1
    · rw [he]; simp; omega
    · rw [if_pos (by omega)] at h1; exact h1
  · refine ⟨false, all, hoa, by omega, fun W hR => (push_str b g m o _ s W hR (by rw [e1]; omega)).mono fun e w' ⟨he, h1, h2⟩ => ⟨?_, ?_, h2⟩, fun W hR => (rpush_any (q + 1) q m o all s W hR hoa (by omega) (by omega) hm).mono fun e w' ⟨he, h1, h2⟩ => ⟨?_, ?_, h2⟩⟩
    · rw [he, e1]; simp [hlt]
    · rw [e1, if_neg hlt] at h1; exact h1
    · rw [he]; simp; omega
    · rw [if_neg (by omega)] at h1; exact h1

set_option maxRecDepth 100000 in
set_option maxHeartbeats 12800000 in
theorem plays_yes (w : World) (k : Nat) (hk : k ≤ 16) (A : Option Addr) (len cap : Nat) (hst : StepsIn w A len) (hlen : len ≤ 9223372036854775807) :
    Calls Try.prog 3 #[.int .i64 k, .slice A len cap] w fun e w' => e = .returned (.bool true) ∧ Below w.heap.size w w' := by
  have HST := Lib.hid hst
  clear hst
  go_enter Try.func3, Try.ntmps3
  go_wp2_with fail
  refine (awake_any _).mono ?_
  rintro e w1 ⟨rfl, hB1⟩
  have H1 := Lib.hid hB1
  clear hB1
  go_wp2_with fail
  refine (new_str k hk _).mono ?_
  rintro e w2 ⟨b, g, rfl, hR, hb1, hg1, hB2⟩
  have H2 := Lib.hid (H1.out.trans (hB2.mono H1.out.size))
  have hz1 : w.heap.size ≤ w1.heap.size := H1.out.size
  have hlt2 := hR.lt
  clear hB2
  go_wp2_with fail
  refine (rnew_any k hk _).mono ?_
  rintro e w3 ⟨rfl, hQ, hF3⟩
  have hR3 := hR.fr hF3 (fun h => h) (fun h => h)
  have H3 := Lib.hid (below_fr H2.out hF3 H2.out.size (fun _ h => h.elim))
  have hz2 : w1.heap.size ≤ w2.heap.size := by omega
  clear hF3 hR
  generalize hq : w2.heap.size = q at *
  have HQ0 := Lib.hid hq
  clear hq
  have hm7 : 2 ^ k ≤ 65536 := Nat.pow_le_pow_right (n := 2) (j := 16) (by omega) hk
  generalize 2 ^ k = m at *
  go_wp2_with fail
  go_loopg [8] 300 (fun gk i wr => ∃ (j o : Nat) (all : List ByteArray), j ≤ len ∧ j + gk = 300 ∧ i = .int .i64 j ∧ o ≤ all.length ∧ all.length ≤ j ∧ RingIs wr b g 67 9 m o (strs (all.drop o)) ∧ RefIs wr (q + 1) q m o all ∧ Below w.heap.size w wr)
  case atStart => exact ⟨0, 0, [], Nat.zero_le _, by omega, rfl, by simp, by simp, hR3, hQ, H3.out⟩
  case round =>
    obtain ⟨j, o, all, hjl, hj3, rfl, hoa, haj, hRr, hQr, hBr⟩ := hrel
    have HJ3 := Lib.hid hj3
    have hj3' : j ≤ 300 := by omega
    have HBr := Lib.hid hBr
    clear hBr hj3
    by_cases hlt : j < len
    · by_cases hlt2 : j < 300
      · obtain ⟨sb, so, rfl, hsb, hi⟩ := (HST.out.below HBr.out) (by omega)
        obtain ⟨x, n, s, ⟨hx1, hx2, hn1, hn2, hs⟩, c0, c1, c2⟩ := hi j hlt
        go_wp2_with fail
        refine (kind_fr x n s _).mono ?_
        rintro e w4 ⟨rfl, hF4⟩
        have hF := Lib.hid (show Fr (fun _ => False) wr w4 from ((Fr.refl _ wr).alloc _).step hF4 (fun _ h => h.elim))
        have hX := (Blk.new wr 29 #[.int .i64 x, .int .i64 n, .string s]).fr hF4 (fun h => h)
        have hRr4 := hRr.fr hF.out (fun h => h) (fun h => h)
        have hQr4 := hQr.fr hF.out (fun h => h) (fun _ _ h => h)
        have HBr4 := Lib.hid (below_fr HBr.out hF.out HBr.out.size (fun _ h => h.elim))
        have hbx : b < wr.heap.size ∧ g < wr.heap.size ∧ q < wr.heap.size := ⟨hRr.lt.1, hRr.lt.2, hQr.lt⟩
        have hbx2 : q + 1 ≤ wr.heap.size := by omega
        clear hF4 hRr hQr hi c0 c1 c2
        generalize wr.heap.size = bx at *
        go_upto_block 2 with fail
        go_cut [4] (fun _ wx => ∃ (o : Nat) (all : List ByteArray), o ≤ all.length ∧ all.length ≤ j + 1 ∧ RingIs wx b g 67 9 m o (strs (all.drop o)) ∧ RefIs wx (q + 1) q m o all ∧ Below w.heap.size w wx)
        case first =>
          have E1 := Lib.hid (show (strs (all.drop o)).length = all.length - o from by rw [strs_len, List.length_drop])
          have HRD := Lib.hid (show RingIs w4.drew b g 67 9 m o (strs (all.drop o)) from hRr4)
          have HXD := Lib.hid (show Blk w4.drew bx 29 _ from hX)
          have hQD : RefIs w4.drew (q + 1) q m o all := hQr4
          obtain ⟨bb, al, ho2, hl2, hcp1, hcp2⟩ := push_pair b g q m o all s hoa (by omega) hm7 (by have := hRr4.2.2.1; rw [E1.out] at this; exact this)
          have CP1 := Lib.hid hcp1
          have CP2 := Lib.hid hcp2
          have hbw : w.heap.size ≤ b ∧ w.heap.size ≤ g ∧ w.heap.size ≤ q := by omega
          clear hcp1 hcp2
          have x2 : w4.cell? ⟨bx, 2, none⟩ = some (.string s) := hX.cell 2
          have x1 : w4.cell? ⟨bx, 1, none⟩ = some (.int .i64 n) := hX.cell 1
          by_cases hx0 : x % 4 = 0
          · have hxa : (x % 4 == 0) = true := by simp [hx0]
            clear hx0
            go_wp2_with fail
            go_region_with (first
              | (go_at_call 12; refine (CP1.out _ HRD.out).mono ?_; rintro e w5 ⟨rfl, hR5, hF5⟩; have y2 := (hF5.cell (p := ⟨bx, 2, none⟩) HXD.out.lt (by simp; omega)).trans (HXD.out.cell 2); have hQ5 := hQD.fr hF5 (by simp; omega) (fun i _ => by simp; omega))
              | (go_at_call 13; refine (CP2.out _ hQ5).mono ?_; rintro e w6 ⟨rfl, hQ6, hF6⟩))
            all_goals
              go_wp2_with fail
              go_meet
              exact ⟨o, al, ho2, by omega, hR5.fr hF6 (by simp; omega) (by simp; omega), hQ6, below_fr (below_fr HBr4.out (show Fr (fun i => i = b ∨ i = g) w4 w5 from ((Fr.refl _ w4).drew).trans hF5) HBr4.out.size (fun i h => by omega)) hF6 (Nat.le_trans HBr4.out.size hF5.size) (fun i h => by omega)⟩
          · have hxa : (x % 4 == 0) = false := by simp [hx0]
            by_cases hx1 : x % 4 = 1
            · have hxb : (x % 4 == 1) = true := by simp [hx1]
              clear hx0 hx1
              go_wp2_with fail
              go_region_with (first
                | (go_at_call 12; refine (CP1.out _ HRD.out).mono ?_; rintro e w5 ⟨rfl, hR5, hF5⟩; have y2 := (hF5.cell (p := ⟨bx, 2, none⟩) HXD.out.lt (by simp; omega)).trans (HXD.out.cell 2); have hQ5 := hQD.fr hF5 (by simp; omega) (fun i _ => by simp; omega))
                | (go_at_call 13; refine (CP2.out _ hQ5).mono ?_; rintro e w6 ⟨rfl, hQ6, hF6⟩))
              all_goals
                go_wp2_with fail
                go_meet
                exact ⟨o, al, ho2, by omega, hR5.fr hF6 (by simp; omega) (by simp; omega), hQ6, below_fr (below_fr HBr4.out (show Fr (fun i => i = b ∨ i = g) w4 w5 from ((Fr.refl _ w4).drew).trans hF5) HBr4.out.size (fun i h => by omega)) hF6 (Nat.le_trans HBr4.out.size hF5.size) (fun i h => by omega)⟩
            · have hxb : (x % 4 == 1) = false := by simp [hx1]
              by_cases hx2 : x % 4 = 2
              · have hxc : (x % 4 == 2) = true := by simp [hx2]
                clear hx0 hx1 hx2
                rcases Nat.lt_or_ge o all.length with hol | hol
                · have hd : strs (all.drop o) = .string all[o] :: strs (all.drop (o + 1)) := by rw [List.drop_eq_getElem_cons hol]; rfl
                  have C1 := Lib.hid (pop_some_str b g m o (.string all[o]) (strs (all.drop (o + 1))) w4 (hd ▸ hRr4) (by rw [← hd, E1.out]; omega))
                  have C2 := Lib.hid (fun W hW => rpop_some (q + 1) q m o all W hW hol (by omega) (by omega))
                  generalize all[o] = s1 at *
                  clear hd
                  go_wp2_with fail
                  refine C1.out.mono ?_
                  rintro e w5 ⟨rfl, hR5, hF5⟩
                  go_wp2_with fail
                  refine (C2.out _ (hQr4.fr hF5 (show ¬ (q = b ∨ q = g) by omega) (fun i _ => show ¬ (i = b ∨ i = g) by omega))).mono ?_
                  rintro e w6 ⟨rfl, hQ6, hF6⟩
                  go_wp2_with fail
                  go_meet
                  exact ⟨o + 1, all, by omega, by omega, hR5.fr hF6 (show ¬ b = q by omega) (show ¬ g = q by omega), hQ6, below_fr (below_fr HBr4.out hF5 HBr4.out.size (fun i h => by omega)) hF6 (Nat.le_trans HBr4.out.size hF5.size) (fun i h => by omega)⟩
                · have hRe : RingIs w4 b g 67 9 m o [] := by
                    have h1 := hRr4
                    rw [List.drop_eq_nil_of_le hol] at h1
                    exact h1
                  have hQe : RefIs w4 (q + 1) q m all.length all := by
                    have h1 := hQr4
                    rw [show o = all.length from by omega] at h1
                    exact h1
                  have C1 := Lib.hid (pop_none_str b g m o w4 hRe (by omega))
                  have C2 := Lib.hid (rpop_none (q + 1) q m all w4 hQe)
                  clear hRe hQe
                  go_wp2_with fail
                  refine C1.out.mono ?_
                  rintro e w5 ⟨rfl, rfl⟩
                  go_wp2_with fail
                  refine C2.out.mono ?_
                  rintro e w6 ⟨rfl, k6, rfl⟩
                  go_wp2_with fail
                  go_meet
                  exact ⟨o, all, hoa, by omega, hRr4, hQr4.drewN _, ⟨HBr4.out.os, HBr4.out.tape, HBr4.out.output, HBr4.out.size, HBr4.out.block⟩⟩
              · have hxc : (x % 4 == 2) = false := by simp [hx2]
                clear hx0 hx1 hx2
                by_cases hn : n < 0 ∨ (all.length : Int) - o ≤ n
                · have C1 := Lib.hid (peek_none_str b g m o n _ w4 hRr4 (by rw [E1.out]; omega) (by rw [E1.out]; omega))
                  have C2 := Lib.hid (fun W hW => rpeek_none (q + 1) q m o all n W hW hoa (by omega) hn)
                  clear hn
                  go_wp2_with fail
                  refine C1.out.mono ?_
                  rintro e w5 ⟨rfl, k5, rfl⟩
                  have x1' : (w4.drewN k5).cell? ⟨bx, 1, none⟩ = some (.int .i64 n) := x1
                  go_wp2_with fail
                  refine (C2.out _ (hQr4.drewN _)).mono ?_
                  rintro e w6 ⟨rfl, k6, rfl⟩
                  go_wp2_with fail
                  go_meet
                  exact ⟨o, all, hoa, by omega, hRr4, hQr4.drewN _, ⟨HBr4.out.os, HBr4.out.tape, HBr4.out.output, HBr4.out.size, HBr4.out.block⟩⟩
                · obtain ⟨nn, rfl⟩ : ∃ nn : Nat, n = nn := ⟨n.toNat, by omega⟩
                  have hnn : o + nn < all.length := by omega
                  have C1 := Lib.hid (peek_some_str b g m o nn (.string all[o + nn]) _ w4 hRr4 (by rw [E1.out]; omega) (by rw [E1.out]; omega) (by simp [strs, hnn]))
                  have C2 := Lib.hid (fun W hW => rpeek_some (q + 1) q m o nn all W hW (by omega) hnn)
                  generalize all[o + nn] = s1 at *
                  clear hn
                  go_wp2_with fail
                  refine C1.out.mono ?_
                  rintro e w5 ⟨rfl, k5, rfl⟩
                  have x1' : (w4.drewN k5).cell? ⟨bx, 1, none⟩ = some (.int .i64 nn) := x1
                  go_wp2_with fail
                  refine (C2.out _ (hQr4.drewN _)).mono ?_
                  rintro e w6 ⟨rfl, k6, rfl⟩
                  go_wp2_with fail
                  go_meet
                  exact ⟨o, all, hoa, by omega, hRr4, hQr4.drewN _, ⟨HBr4.out.os, HBr4.out.tape, HBr4.out.output, HBr4.out.size, HBr4.out.block⟩⟩
        case rest =>
          obtain ⟨o', all', ho', ha', hR5, hQ5, hB5⟩ := hcut
          have HB5 := Lib.hid hB5
          have HR5 := Lib.hid hR5
          have HQ5 := Lib.hid hQ5
          obtain ⟨A5, cp5, hQB, _, _, _⟩ := hQ5
          have d0 := hQB.cell 0
          have d1 := hQB.cell 1
          have d2 := hQB.cell 2
          simp only [List.getElem?_toArray, List.getElem?_cons_zero, List.getElem?_cons_succ] at d0 d1 d2
          have e1 : (strs (all'.drop o')).length = all'.length - o' := by rw [strs_len, List.length_drop]
          have L1 := Lib.hid (fun i => len_str b g m o' _ (wc.drewN i) hR5 (by rw [e1]; omega))
          have L2 := Lib.hid (fun i => room_str b g m o' _ (wc.drewN i) hR5 (by rw [e1]; omega))
          have L3 := Lib.hid (fun i => pushed_str b g m o' _ (wc.drewN i) hR5)
          have L4 := Lib.hid (fun i => popped_str b g m o' _ (wc.drewN i) hR5)
          rw [e1] at L1 L2 L3
          have e2 : ((all'.length - o' : Nat) : Int) = (all'.length : Int) - o' := by omega
          have e3 : (m : Int) - ((all'.length : Int) - o') = (m : Int) - all'.length + o' := by omega
          have e4 : o' + (all'.length - o') = all'.length := by omega
          rw [e2] at L1 L2
          rw [e3] at L2
          rw [e4] at L3
          clear hB5 hR5 hQB e1 e2 e3 e4
          generalize hn' : all'.length = n' at *
          have HN' := Lib.hid hn'
          clear hn'
          go_wp2_with fail
          go_quiet ((first | (go_at_call 18; exact Calls.quiet_of (L1.out _)) | (go_at_call 19; exact Calls.quiet_of (L2.out _)) | (go_at_call 20; exact Calls.quiet_of_same (left_same (L3.out _))) | (go_at_call 21; exact Calls.quiet_of_same (left_same (L4.out _)))))
          go_wp2_with fail
          go_roundg (gk - 1)
          case measure => have := HJ3.out; omega
          case rel =>
            have h3 := HJ3.out
            exact ⟨j + 1, o', all', by omega, by omega, by go_num, by have := HN'.out; omega, by have := HN'.out; omega, HR5.out, HQ5.out.drewN _, ⟨HB5.out.os, HB5.out.tape, HB5.out.output, HB5.out.size, HB5.out.block⟩⟩
      · go_wp2_with fail
        go_ret
        exact ⟨rfl, HBr.out⟩
    · go_wp2_with fail
      go_ret
      exact ⟨rfl, HBr.out⟩
end Go.Proofs.Yteggdpkjbbjcdaa
