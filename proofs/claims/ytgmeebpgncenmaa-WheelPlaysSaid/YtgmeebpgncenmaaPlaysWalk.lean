/- WheelPlays answers true. -/
import Derived.Test.YtgmeebpgncenmaaPlayP
import Derived.IntWalk
import Derived.Test.YtgmeebpgncenmaaDueP
import Derived.Deep.RegionHeld3
namespace Go.Proofs.Ytgmeebpgncenmaa
open Go.RowKit

set_option maxRecDepth 100000 in
set_option maxHeartbeats 6400000 in
theorem plays_any (w : World) (A : Option Addr) (len cap : Nat) (hrd : Rd Try.prog w 32 [.slice A len cap]) (_ : len * Try.prog.bytesOf 36 ≤ 140737488351232) :
    Calls Try.prog 4 #[.slice A len cap] w fun e w' => e = .returned (.bool true) ∧ Below w.heap.size w w' := by
  obtain ⟨hst, hlen⟩ := steps_in hrd
  have HST := Lib.hid hst
  clear hst hrd
  go_enter Try.func4, Try.ntmps4
  go_wp2_with fail
  refine (awake_any _).mono ?_
  rintro e w1 ⟨rfl, hB1⟩
  have H1 := Lib.hid hB1
  clear hB1
  go_wp2_with fail
  refine (whl_new _).mono ?_
  rintro e w2 ⟨rfl, h2, f2⟩
  have B2 := Lib.hid (below_fr H1.out f2 H1.out.size fun _ h => h.elim)
  go_wp2_with fail
  refine (rnew _).mono ?_
  rintro e w3 ⟨rfl, h3, f3⟩
  have HN0 := Lib.hid (show ∃ b q, b = w1.heap.size + 1 ∧ q = w2.heap.size ∧ PLaw w b q 0 w3 from ⟨_, _, rfl, rfl, w3.heap.size, 0, 0, [], ⟨fun i => w2.heap.size ≤ i ∧ i < w3.heap.size, fun i hi => ⟨Nat.le_trans B2.out.size hi.1, hi.2, by omega⟩,
    ((h2.mono (G := fun i => w1.heap.size ≤ i ∧ i < w2.heap.size) fun i hl hi => ⟨hi, hl⟩).fr0 f3).mono fun i hl hi => ⟨Nat.le_trans H1.out.size hi.1, fun h => by omega, by omega⟩, h3.mono fun i hl hi => ⟨hi, hl⟩, below_fr B2.out f3 B2.out.size fun _ h => h.elim⟩, by omega, by omega⟩)
  obtain ⟨b, q, hbb, hqq, hN⟩ := HN0.out
  have HN := Lib.hid hN
  rw [← hbb, ← hqq]
  clear h2 f2 h3 f3 hbb hqq hN HN0
  go_wp2_with fail
  go_loopg [6] 60 (fun gk v6 wr => ∃ j : Nat, j + gk = 60 ∧ j ≤ len ∧ v6 = .int .i64 (j : Int) ∧ PLaw w b q j wr)
  case atStart => exact ⟨0, by omega, Nat.zero_le _, rfl, HN.out⟩
  case round =>
    obtain ⟨j, hj, hjl, rfl, hN⟩ := hrel
    have HJ := Lib.hid hj
    have hj2 : j ≤ 60 := by omega
    obtain ⟨gx0, now, added, L, hS, hnow, hadd⟩ := hN
    have HS := Lib.hid hS
    clear hj hS HN
    by_cases hlt : j < len
    · by_cases hlt2 : j < 60
      · obtain ⟨sb, so, rfl, hsw, hi⟩ := HST.out (by omega)
        obtain ⟨x, n, s, ⟨hx, hn, hs⟩, e0, e1, e2⟩ := hi j hlt
        have c0 := (HS.out.below.cell (p := ⟨sb, so + j * 3, none⟩) hsw).trans e0
        have c1 := (HS.out.below.cell (p := ⟨sb, so + j * 3 + 1, none⟩) hsw).trans e1
        have c2 := (HS.out.below.cell (p := ⟨sb, so + j * 3 + 2, none⟩) hsw).trans e2
        have HXI := Lib.hid hx
        have HNI := Lib.hid hn
        have HSI := Lib.hid hs
        clear e0 e1 e2 hi hx hn hs
        have hand := i64_and3 x
        have hb60 : decide ((j : Int) < 60) = true := decide_eq_true (by omega)
        go_upto_block 2 with fail
        have hB4 : Blk (wr.alloc (.cells #[.int .i64 x, .int .i64 n, .int .i64 s] 36)) wr.heap.size 36 #[.int .i64 x, .int .i64 n, .int .i64 s] := Blk.new _ _ _
        have HS4 := Lib.hid (HS.out.clear.fr0 ((Fr.refl _ wr).alloc (.cells #[.int .i64 x, .int .i64 n, .int .i64 s] 36)))
        clear c0 c1 c2
        generalize wr.alloc (.cells #[.int .i64 x, .int .i64 n, .int .i64 s] 36) = w4 at *
        generalize wr.heap.size = gx at *
        have hgx := hB4.lt
        go_cut [8, 9] (fun _ _ wx => ∃ (now added : Nat) (L : List Tm), PSt w b q gx now added L now L wx ∧ now ≤ 600 * j + 600 ∧ added ≤ j + 1 ∧ Blk wx gx 36 #[.int .i64 x, .int .i64 n, .int .i64 s])
        case first =>
          by_cases hx0 : x % 4 = 0
          · have hxa : (x % 4 == 0) = true := by simp [hx0]
            clear hx0
            go_wp2_with fail
            obtain ⟨FF, hwF, hnF, hsF⟩ := HS4.out.whl hgx
            have HSF := Lib.hid hsF
            have HWF := Lib.hid hwF
            have k1 := hB4.cell 1
            have k2 := hB4.cell 2
            simp only [List.getElem?_toArray, List.getElem?_cons_zero, List.getElem?_cons_succ] at k1 k2
            clear hsF hwF
            go_region_held3 (fun w' => w'.cell? ⟨gx, 1, none⟩ = some (.int .i64 n) ∧ w'.cell? ⟨gx, 2, none⟩ = some (.int .i64 s)) (first | go_keep | exact ⟨z1, z2⟩ | exact ⟨y1, y2⟩) ((first
              | (go_at_call 11; refine (whl_add (HWF.out.fr0 (by repeat first | exact Fr.refl _ _ | refine Fr.drew ?_ | refine Fr.drewN ?_ _)) (by omega) (by omega) n s HNI.out).mono ?_; rintro e w5 ⟨r5, a5, L5, rfl, hr5, hw5, hf5⟩; have hP5 := HSF.out _ _ _ _ (hw5.mono fun _ _ h => h) (Fr.trans (by repeat first | exact Fr.refl _ _ | refine Fr.drew ?_ | refine Fr.drewN ?_ _) hf5); have hB5 := hB4.fr (Fr.trans (by repeat first | exact Fr.refl _ _ | refine Fr.drew ?_ | refine Fr.drewN ?_ _) hf5) hnF; have y1 := hB5.cell 1; have y2 := hB5.cell 2; simp only [List.getElem?_toArray, List.getElem?_cons_zero, List.getElem?_cons_succ] at y1 y2; have HR5 := Lib.hid hr5; have HP5 := Lib.hid hP5; have HB5 := Lib.hid hB5; clear hP5 hB5 hw5 hf5 hr5)
              | (go_at_call 15; obtain ⟨GG, hrG, hnG, hlG, hsG⟩ := (HP5.out.fr0 (by repeat first | exact Fr.refl _ _ | refine Fr.drew ?_ | refine Fr.drewN ?_ _)).ref; refine (radd_any hrG HWF.out.len (by omega) HR5.out).mono ?_; rintro e w6 ⟨rfl, hr6, hf6⟩; have HP6 := Lib.hid (hsG _ _ _ (by exact HB5.out.lt) hr6 hf6); have HB6 := Lib.hid ((HB5.out.fr (S := fun _ => False) (by repeat first | exact Fr.refl _ _ | refine Fr.drew ?_ | refine Fr.drewN ?_ _) id).fr hf6 hnG); have z1 := HB6.out.cell 1; have z2 := HB6.out.cell 2; simp only [List.getElem?_toArray, List.getElem?_cons_zero, List.getElem?_cons_succ] at z1 z2; clear hsG hr6 hf6 hrG hnG hlG)))
            all_goals
              clear z1 z2 y1 y2
              go_wp2_with fail
              go_meet
              have hr := HR5.out.len2
              exact ⟨now, a5, L5, HP6.out.fr0 (by repeat first | exact Fr.refl _ _ | refine Fr.drew ?_ | refine Fr.drewN ?_ _), by omega, by omega, HB6.out⟩
          · have hxa : (x % 4 == 0) = false := by simp [hx0]
            by_cases hx1 : x % 4 = 1
            · have hxb : (x % 4 == 1) = true := by simp [hx1]
              clear hx0 hx1
              go_wp2_with fail
              obtain ⟨FF, hwF, hnF, hsF⟩ := HS4.out.whl hgx
              have HSF := Lib.hid hsF
              have HWF := Lib.hid hwF
              have k1 := hB4.cell 1
              have k2 := hB4.cell 2
              simp only [List.getElem?_toArray, List.getElem?_cons_zero, List.getElem?_cons_succ] at k1 k2
              clear hsF hwF
              go_region_held3 (fun w' => w'.cell? ⟨gx, 1, none⟩ = some (.int .i64 n) ∧ w'.cell? ⟨gx, 2, none⟩ = some (.int .i64 s)) (first | go_keep | exact ⟨z1, z2⟩ | exact ⟨y1, y2⟩) ((first
                | (go_at_call 11; refine (whl_add (HWF.out.fr0 (by repeat first | exact Fr.refl _ _ | refine Fr.drew ?_ | refine Fr.drewN ?_ _)) (by omega) (by omega) n s HNI.out).mono ?_; rintro e w5 ⟨r5, a5, L5, rfl, hr5, hw5, hf5⟩; have hP5 := HSF.out _ _ _ _ (hw5.mono fun _ _ h => h) (Fr.trans (by repeat first | exact Fr.refl _ _ | refine Fr.drew ?_ | refine Fr.drewN ?_ _) hf5); have hB5 := hB4.fr (Fr.trans (by repeat first | exact Fr.refl _ _ | refine Fr.drew ?_ | refine Fr.drewN ?_ _) hf5) hnF; have y1 := hB5.cell 1; have y2 := hB5.cell 2; simp only [List.getElem?_toArray, List.getElem?_cons_zero, List.getElem?_cons_succ] at y1 y2; have HR5 := Lib.hid hr5; have HP5 := Lib.hid hP5; have HB5 := Lib.hid hB5; clear hP5 hB5 hw5 hf5 hr5)
                | (go_at_call 15; obtain ⟨GG, hrG, hnG, hlG, hsG⟩ := (HP5.out.fr0 (by repeat first | exact Fr.refl _ _ | refine Fr.drew ?_ | refine Fr.drewN ?_ _)).ref; refine (radd_any hrG HWF.out.len (by omega) HR5.out).mono ?_; rintro e w6 ⟨rfl, hr6, hf6⟩; have HP6 := Lib.hid (hsG _ _ _ (by exact HB5.out.lt) hr6 hf6); have HB6 := Lib.hid ((HB5.out.fr (S := fun _ => False) (by repeat first | exact Fr.refl _ _ | refine Fr.drew ?_ | refine Fr.drewN ?_ _) id).fr hf6 hnG); have z1 := HB6.out.cell 1; have z2 := HB6.out.cell 2; simp only [List.getElem?_toArray, List.getElem?_cons_zero, List.getElem?_cons_succ] at z1 z2; clear hsG hr6 hf6 hrG hnG hlG)))
              all_goals
                clear z1 z2 y1 y2
                go_wp2_with fail
                go_meet
                have hr := HR5.out.len2
                exact ⟨now, a5, L5, HP6.out.fr0 (by repeat first | exact Fr.refl _ _ | refine Fr.drew ?_ | refine Fr.drewN ?_ _), by omega, by omega, HB6.out⟩
            · have hxb : (x % 4 == 1) = false := by simp [hx1]
              by_cases hx2 : x % 4 = 2
              · have hxc : (x % 4 == 2) = true := by simp [hx2]
                clear hx0 hx1 hx2
                go_wp2_with fail
                obtain ⟨FF, hwF, hnF, hsF⟩ := HS4.out.whl hgx
                have HSF := Lib.hid hsF
                have HWF := Lib.hid hwF
                have k1 := hB4.cell 1
                have k2 := hB4.cell 2
                simp only [List.getElem?_toArray, List.getElem?_cons_zero, List.getElem?_cons_succ] at k1 k2
                clear hsF hwF
                go_region_held3 (fun w' => w'.cell? ⟨gx, 1, none⟩ = some (.int .i64 n) ∧ w'.cell? ⟨gx, 2, none⟩ = some (.int .i64 s)) (first | go_keep | exact ⟨z1, z2⟩ | exact ⟨y1, y2⟩) ((first
                  | (go_at_call 16; refine (whl_cancel (HWF.out.fr0 (by repeat first | exact Fr.refl _ _ | refine Fr.drew ?_ | refine Fr.drewN ?_ _)) (by omega) n HNI.out).mono ?_; rintro e w5 ⟨r5, L5, rfl, hr5, hw5, hf5⟩; have hP5 := HSF.out _ _ _ _ (hw5.mono fun _ _ h => h) (Fr.trans (by repeat first | exact Fr.refl _ _ | refine Fr.drew ?_ | refine Fr.drewN ?_ _) hf5); have hB5 := hB4.fr (Fr.trans (by repeat first | exact Fr.refl _ _ | refine Fr.drew ?_ | refine Fr.drewN ?_ _) hf5) hnF; have y1 := hB5.cell 1; have y2 := hB5.cell 2; simp only [List.getElem?_toArray, List.getElem?_cons_zero, List.getElem?_cons_succ] at y1 y2; have HR5 := Lib.hid hr5; have HP5 := Lib.hid hP5; have HB5 := Lib.hid hB5; clear hP5 hB5 hw5 hf5 hr5)
                  | (go_at_call 17; obtain ⟨GG, hrG, hnG, hlG, hsG⟩ := (HP5.out.fr0 (by repeat first | exact Fr.refl _ _ | refine Fr.drew ?_ | refine Fr.drewN ?_ _)).ref; refine (rcan_any hrG HWF.out.len HWF.out.ids HR5.out).mono ?_; rintro e w6 ⟨rfl, hr6, hf6⟩; have HP6 := Lib.hid (hsG _ _ _ (by exact HB5.out.lt) hr6 hf6); have HB6 := Lib.hid ((HB5.out.fr (S := fun _ => False) (by repeat first | exact Fr.refl _ _ | refine Fr.drew ?_ | refine Fr.drewN ?_ _) id).fr hf6 hnG); have z1 := HB6.out.cell 1; have z2 := HB6.out.cell 2; simp only [List.getElem?_toArray, List.getElem?_cons_zero, List.getElem?_cons_succ] at z1 z2; clear hsG hr6 hf6 hrG hnG hlG)))
                all_goals
                  clear z1 z2 y1 y2
                  go_wp2_with fail
                  go_meet
                  exact ⟨now, added, L5, HP6.out.fr0 (by repeat first | exact Fr.refl _ _ | refine Fr.drew ?_ | refine Fr.drewN ?_ _), by omega, by omega, HB6.out⟩
              · have hxc : (x % 4 == 2) = false := by simp [hx2]
                clear hx0 hx1 hx2
                go_wp2_with fail
                have HB4 := Lib.hid hB4
                clear hB4 hgx
                go_loopw [8, 9] (fun v8 _ wr => ∃ (i : Nat) (L1 : List Tm), i ≤ tks s ∧ v8 = .int .i64 (i : Int) ∧ PSt w b q gx (now + i) added L1 (now + i) L1 wr ∧ Blk wr gx 36 #[.int .i64 x, .int .i64 n, .int .i64 s]) (fun v _ _ => 600 - (intOf v).toNat)
                case atStart => exact ⟨0, L, Nat.zero_le _, rfl, HS4.out, HB4.out⟩
                case round =>
                  obtain ⟨i, L1, hi, rfl, hP, hB1⟩ := hrel
                  have htl := tks_lt s
                  have hgx1 := hB1.lt
                  have k0 := hB1.cell 0
                  have k1 := hB1.cell 1
                  have k2 := hB1.cell 2
                  simp only [List.getElem?_toArray, List.getElem?_cons_zero, List.getElem?_cons_succ] at k0 k1 k2
                  have hal : Fr (fun _ => False) wr (wr.alloc (.cells #[.int .i64 x, .int .i64 n, .int .i64 s] 36)) := (Fr.refl _ _).alloc _
                  have HP5 := Lib.hid (hP.fr0 hal)
                  have HB5 := Lib.hid (hB1.fr hal id)
                  clear hP hB1 hal
                  go_wp2_with fail
                  refine (ticks_any x n s HSI.out _).mono ?_
                  rintro e w5 ⟨rfl, rfl⟩
                  clear k0 k1 k2 hgx1
                  generalize wr.alloc (.cells #[.int .i64 x, .int .i64 n, .int .i64 s] 36) = W at *
                  by_cases hqt : i < tks s
                  · obtain ⟨FF, hwF, hnF, hsF⟩ := HP5.out.whl HB5.out.lt
                    have HWF := Lib.hid hwF
                    have HSF := Lib.hid hsF
                    clear hwF hsF
                    go_wp2_with fail
                    refine (whl_tick HWF.out (by omega)).mono ?_
                    rintro e w6 ⟨R, rc, rfl, o6, h6, f6, n6⟩
                    have hP6 := HSF.out _ _ _ _ (h6.mono fun _ _ h => h.1) f6
                    have hB6 := HB5.out.fr f6 hnF
                    obtain ⟨GG, hrG, hnG, hlG, hsG⟩ := hP6.ref
                    have HRG := Lib.hid hrG
                    have HSG := Lib.hid hsG
                    have HLG := Lib.hid (show ∀ g, R = some ⟨g, 0, none⟩ → ¬ GG g from fun g e => hlG g _ _ _ (by rw [e] at o6; exact o6))
                    have HB6 := Lib.hid hB6
                    have HO6 := Lib.hid o6
                    have HIDS := Lib.hid h6.len
                    have HDL := Lib.hid (show (dueL L1 (now + i + 1)).length ≤ 1000 from Nat.le_trans (List.length_filter_le _ _) HWF.out.len)
                    clear hP6 hB6 hrG hsG hlG h6 f6 n6 o6
                    go_wp2_with fail
                    refine (rtick_any HRG.out HWF.out.len (by omega)).mono ?_
                    rintro e w7 ⟨R2, rc2, rfl, o7, h7, f7, n7⟩
                    have HP7 := Lib.hid (HSG.out _ _ _ HB6.out.lt h7 f7)
                    have HB7 := Lib.hid (HB6.out.fr f7 hnG)
                    have HO7 := Lib.hid o7
                    have HO67 := Lib.hid (HO6.out.fr f7 HLG.out)
                    clear o7 h7 f7 n7
                    go_wp2_with fail
                    refine (same_ints (xs := dids L1 (now + i + 1)) (ys := dids L1 (now + i + 1)) (by have := HO67.out; rw [idV_ints] at this; exact this) (by have := HO7.out; rw [idV_ints] at this; exact this) (by simp [dids]) (by simp [dids]) (by have := HDL.out; omega) true (by simp)).mono ?_
                    rintro e w8 ⟨rfl, k8, rfl⟩
                    have HP8 := Lib.hid (HP7.out.fr0 ((Fr.refl _ w7).drewN k8))
                    have HB8 := Lib.hid (HB7.out.drewN k8)
                    go_wp2_with fail
                    go_roundw
                    case rel => first
                      | exact ⟨i + 1, leftL L1 (now + i + 1), by omega, by go_num, HP8.out, HB8.out⟩
                      | ((repeat apply Exists.intro); exact ⟨⟨i + 1, leftL L1 (now + i + 1), by omega, by go_num, HP8.out, HB8.out⟩, rfl⟩)
                    case measure => simp [intOf]; omega
                  · go_wp2_with fail
                    go_meet
                    exact ⟨now + i, added, L1, HP5.out, by omega, by omega, HB5.out⟩
        case rest =>
          obtain ⟨now1, a1, L1, hP, hn1, ha1, hB1⟩ := hcut
          have HP := Lib.hid hP
          have HB1 := Lib.hid hB1
          have hgx1 := hB1.lt
          have k1 := hB1.cell 1
          simp only [List.getElem?_toArray, List.getElem?_cons_zero, List.getElem?_cons_succ] at k1
          obtain ⟨v, is, hLR⟩ := left_ex L1 now1 n
          have HLR := Lib.hid hLR
          obtain ⟨FF, hwF, hnF, hsF⟩ := HP.out.whl hgx1
          obtain ⟨GG, hrG, hnG, hlG, hsG⟩ := HP.out.ref
          have HWF := Lib.hid hwF
          have HRG := Lib.hid hrG
          clear hP hB1 hLR hwF hsF hrG hsG hlG hnF hnG hB4 HS4 hgx
          go_wp2_with fail
          refine (whl_left HWF.out (by omega) HNI.out HLR.out).mono ?_
          rintro e w5 ⟨rfl, f5⟩
          have HF5 := Lib.hid f5
          have k1' : w5.cell? ⟨gx, 1, none⟩ = some (.int .i64 n) := (f5.cell hgx1 id).trans k1
          clear f5
          go_wp2_with fail
          refine (rleft (HRG.out.fr0 HF5.out) HWF.out.len HWF.out.ids (by omega) (fun t ht => (HWF.out.due t ht).2) HLR.out).mono ?_
          rintro e w6 ⟨rfl, f6⟩
          have HF6 := Lib.hid (HF5.out.trans f6)
          have HW6 := Lib.hid (HWF.out.fr0 HF6.out)
          have HR6 := Lib.hid (HRG.out.fr0 HF6.out)
          have HP6 := Lib.hid (HP.out.fr0 HF6.out)
          obtain ⟨RA, rac, hRB, _⟩ := HR6.out
          have hq6 := hRB.lt
          have q0 := hRB.cell 0
          have q1 := hRB.cell 1
          simp only [List.getElem?_toArray, List.getElem?_cons_zero, List.getElem?_cons_succ] at q0 q1
          clear f6 k1 k1' hRB
          go_wp2_with fail
          go_region_held3 (fun w' => w'.cell? ⟨q, 0, none⟩ = some (.int .i64 (now1 : Int)) ∧ w'.cell? ⟨q, 1, none⟩ = some (.slice RA L1.length rac)) (first | go_keep | exact ⟨y0, y1⟩) ((first
            | (go_at_call 22; refine (whl_now (HW6.out.fr0 (by repeat first | exact Fr.refl _ _ | refine Fr.drew ?_ | refine Fr.drewN ?_ _))).mono ?_; rintro e w7 ⟨rfl, rfl⟩)
            | (go_at_call 13; refine (whl_len (HW6.out.fr0 (by repeat first | exact Fr.refl _ _ | refine Fr.drew ?_ | refine Fr.drewN ?_ _))).mono ?_; rintro e w7 ⟨rfl, rfl⟩)
            | (go_at_call 23; refine (whl_next (HW6.out.fr0 (by repeat first | exact Fr.refl _ _ | refine Fr.drew ?_ | refine Fr.drewN ?_ _)) (by omega)).mono ?_; rintro e w7 ⟨v1, rfl, hv1, hf7⟩; have HF7 := Lib.hid (Fr.trans (show Fr (fun _ => False) w6 _ by repeat first | exact Fr.refl _ _ | refine Fr.drew ?_ | refine Fr.drewN ?_ _) hf7); have y0 := (HF7.out.cell (p := ⟨q, 0, none⟩) hq6 id).trans q0; have y1 := (HF7.out.cell (p := ⟨q, 1, none⟩) hq6 id).trans q1; have HV1 := Lib.hid hv1; clear hv1 hf7)
            | (go_at_call 24; refine (rnext_any ((HR6.out.fr0 HF7.out).fr0 (by repeat first | exact Fr.refl _ _ | refine Fr.drew ?_ | refine Fr.drewN ?_ _)) HW6.out.len (by omega) (fun t ht => by have := HW6.out.due t ht; omega)).mono ?_; rintro e w8 ⟨v2, rfl, hv2, hf8⟩; obtain rfl := is_next_eq hv2 HV1.out; have HF8 := Lib.hid (HF7.out.trans (Fr.trans (show Fr (fun _ => False) w7 _ by repeat first | exact Fr.refl _ _ | refine Fr.drew ?_ | refine Fr.drewN ?_ _) hf8)); have y0 := (HF8.out.cell (p := ⟨q, 0, none⟩) hq6 id).trans q0; have y1 := (HF8.out.cell (p := ⟨q, 1, none⟩) hq6 id).trans q1; clear hv2 hf8)))
          all_goals
            go_wp2_with fail
            have HPL := Lib.hid (show PLaw w b q (j + 1) _ from ⟨gx, now1, a1, L1, (HP6.out.fr0 HF8.out).fr0 (by repeat first | exact Fr.refl _ _ | refine Fr.drew ?_ | refine Fr.drewN ?_ _), by omega, by omega⟩)
            go_roundg (gk - 1)
            case measure => have := HJ.out; omega
            case rel => first
              | exact ⟨j + 1, by have := HJ.out; omega, by omega, by go_num, HPL.out⟩
              | ((repeat apply Exists.intro); exact ⟨⟨j + 1, by have := HJ.out; omega, by omega, by go_num, HPL.out⟩, rfl⟩)
      · go_wp2_with fail
        go_ret
        exact ⟨rfl, HS.out.below⟩
    · go_wp2_with fail
      go_ret
      exact ⟨rfl, HS.out.below⟩
end Go.Proofs.Ytgmeebpgncenmaa
