/- ArenaPlays answers true. -/
import Derived.Test.YtncjhfofmeamdaaPp
import Derived.Deep.RegionHeld3
namespace Go.Proofs.Ytncjhfofmeamdaa
open Go.RowKit

theorem rtaken_l {w : World} {F : Nat → Prop} {b n : Nat} {L : Tk} (h : RAr w F b n L) (hlen : L.length ≤ 65536) : Calls Try.prog 12 #[.pointer (some ⟨b, 0, none⟩)] w fun e w' => ∃ (A : Option Addr) (c : Nat) (l : List Nat), e = .returned (.slice A l.length c) ∧ l = L.map (·.1) ∧ Row w' A c l ∧ Fr (fun _ => False) w w' := by
  refine (rtaken_any h hlen).mono ?_
  rintro e w' ⟨A, c, rfl, hr, hf⟩
  exact ⟨A, c, _, by rw [List.length_map], rfl, hr, hf⟩
theorem sm_sort {n : Nat} {T L : Tk} (hs : Sm T L) (hT : TOk n T) (hl : L.Pairwise fun p q => p.1 < q.1) : sortL (T.map (·.1)) = L.map (·.1) :=
  sortL_eq (((hs.perm hT (hT.of_sm hs hl)).symm.map _)) (List.pairwise_map.2 (hl.imp fun h => Nat.le_of_lt h))

set_option maxRecDepth 100000 in
set_option maxHeartbeats 6400000 in
theorem plays_any (w : World) (order : Int) (_ho1 : -9223372036854775808 ≤ order) (_ho2 : order ≤ 9223372036854775807)
    (A : Option Addr) (len cap : Nat) (hrd : Rd Try.prog w 22 [.slice A len cap]) (_hs : len * Try.prog.bytesOf 32 ≤ 140737488351232) :
    Calls Try.prog 3 #[.int .i64 order, .slice A len cap] w fun e w' => e = .returned (.bool true) ∧ Below w.heap.size w w' := by
  obtain ⟨HST0, hlen⟩ := steps_in hrd
  clear hrd
  have HST := Lib.hid HST0
  clear HST0
  go_enter Try.func3, Try.ntmps3
  go_wp2_with fail
  refine (awake_any _).mono ?_
  rintro e w1 ⟨rfl, hB1⟩
  have B1 := Lib.hid hB1
  clear hB1
  go_wp2_with fail
  by_cases ho : order < 0 ∨ 16 < order
  · refine (new_no w1 order ho).mono ?_
    rintro e w2 ⟨rfl, rfl⟩
    go_wp2_with fail
    refine (rnew_no w1 order ho).mono ?_
    rintro e w2 ⟨rfl, rfl⟩
    clear ho
    go_wp2_with fail
    go_ret
    exact ⟨rfl, B1.out⟩
  · obtain ⟨n, rfl⟩ : ∃ n : Nat, order = n := ⟨order.toNat, by omega⟩
    have hn16 : n ≤ 16 := by omega
    clear ho
    refine (new_liv w1 n hn16).mono ?_
    rintro e w2 ⟨rfl, hL2, hF2⟩
    have L2 := Lib.hid (hL2.mono (S' := fun i => w.heap.size ≤ i) fun i h => Nat.le_trans B1.out.size h)
    have B2 := Lib.hid (below_fr B1.out hF2 B1.out.size fun _ h => h.elim)
    generalize w1.heap.size + 2 = a at *
    clear hL2 hF2
    go_wp2_with fail
    refine (rnew_ok w2 n hn16).mono ?_
    rintro e w3 ⟨rfl, hR3, hF3⟩
    have W3 := Lib.hid (PP.mk' L2.out hF3 hR3 B2.out.size)
    have B3 := Lib.hid (below_fr B2.out hF3 B2.out.size fun _ h => h.elim)
    generalize w2.heap.size = b at *
    clear hR3 hF3 L2
    go_wp2_with fail
    go_loopw [10] (fun i wr => ∃ (j : Nat) (T L : Tk), j ≤ 120 ∧ i = .int .i64 (j : Int) ∧ Sm T L ∧ L.Pairwise (fun p q => p.1 < q.1) ∧ PP wr (fun i => w.heap.size ≤ i) a b n T L ∧ Below w.heap.size w wr) (fun i _ => 700 - (intOf i).toNat)
    case atStart => exact ⟨0, [], [], by omega, rfl, Sm.refl _, List.Pairwise.nil, W3.out, B3.out⟩
    case round =>
      obtain ⟨j, T, L, hj, rfl, hs, hl, hW, hB⟩ := hrel
      have W4 := Lib.hid hW
      have B4 := Lib.hid hB
      have HS := Lib.hid hs
      have HL := Lib.hid hl
      clear hs hl hW hB W3 B3 B1 B2
      by_cases h1 : j < len
      · by_cases h2 : j < 120
        · obtain ⟨gm, om, rfl, hgm, hcm⟩ := HST.out (by omega)
          obtain ⟨gv, rv, x, ⟨hx1, hx2⟩, c0, c1, c2⟩ := hcm j h1
          have y0 := (B4.out.cell (p := ⟨gm, om + j * 3, none⟩) hgm).trans c0
          have y1 := (B4.out.cell (p := ⟨gm, om + j * 3 + 1, none⟩) hgm).trans c1
          have y2 := (B4.out.cell (p := ⟨gm, om + j * 3 + 2, none⟩) hgm).trans c2
          have h1I : (j : Int) < (len : Int) := by omega
          have h2I : (j : Int) < 120 := by omega
          have hgmr : gm ≠ wr.heap.size := by have := B4.out.size; omega
          clear hcm c0 c1 c2
          go_upto_if 62 with fail
          have hfx : Fr (fun _ => False) wr (wr.alloc (.cells #[.bool gv, .bool rv, .int .i64 x] 32)) := (Fr.refl _ wr).alloc _
          have hX := Blk.new wr 32 #[.bool gv, .bool rv, .int .i64 x]
          have HX := Lib.hid hX
          obtain ⟨gx, hgx⟩ : ∃ gx, gx = wr.heap.size := ⟨_, rfl⟩
          have W5 := Lib.hid (W4.out.but hfx (g := gx) (by omega))
          have B5 := Lib.hid (below_fr B4.out hfx B4.out.size fun _ h => h.elim)
          rw [← hgx] at HX ⊢
          generalize wr.alloc (.cells #[.bool gv, .bool rv, .int .i64 x] 32) = w5 at *
          obtain ⟨K, hK⟩ : ∃ K : Nat → Prop, K = fun i => w.heap.size ≤ i ∧ i ≠ gx := ⟨_, rfl⟩
          rw [← hK] at W5
          have HKB := Lib.hid (show ∀ i, K i → w.heap.size ≤ i from fun i h => by rw [hK] at h; exact h.1)
          have HKg := Lib.hid (show ¬ K gx from fun h => by rw [hK] at h; exact h.2 rfl)
          have HK := Lib.hid (show ∀ w' : World, w5.heap.size ≤ w'.heap.size → ∀ i, w'.heap.size ≤ i → K i from fun w' h1 i h2 => by
            rw [hK]
            have := HX.out.lt
            have := B5.out.size
            omega)
          have HXW := Lib.hid (show ∀ w' : World, Fr K w5 w' → w'.cell? ⟨gx, 0, none⟩ = some (.bool gv) ∧ w'.cell? ⟨gx, 1, none⟩ = some (.bool rv) ∧ w'.cell? ⟨gx, 2, none⟩ = some (.int .i64 x) from fun w' h => by
            have h1 := HX.out.fr h HKg.out
            exact ⟨h1.cell 0, h1.cell 1, h1.cell 2⟩)
          clear hfx hX hgx hK y0 y1 y2 hgmr W4 B4
          go_cut [12] (fun _ wx => ∃ (T' L' : Tk), Sm T' L' ∧ L'.Pairwise (fun p q => p.1 < q.1) ∧ PP wx K a b n T' L' ∧ Fr K w5 wx)
          case first =>
            obtain ⟨x0, x1, x2⟩ := HXW.out w5 (Fr.refl _ _)
            obtain ⟨Sa, hLa⟩ := W5.out.l
            obtain ⟨Sb, hRb⟩ := W5.out.r
            have HTOK := Lib.hid (hLa.2.1.of_sm HS.out HL.out)
            have HLE := Lib.hid (show L.length ≤ 65536 from Nat.le_trans HTOK.out.length_le (pow16 hn16))
            have RB := Lib.hid hRb
            clear hRb hLa
            cases gv
            · go_wp2_with fail
              refine (W5.out.take1 (HK.out _ (Nat.le_refl _)) x).mono ?_
              rintro e w6 ⟨r, c, T', rfl, hr, hW6, f6⟩
              have W6 := Lib.hid hW6
              have F6 := Lib.hid f6
              have R6 := Lib.hid hr
              obtain ⟨z0, z1, z2⟩ := HXW.out w6 f6
              clear hW6 f6 hr
              go_wp2_with fail
              refine (W6.out.take2 (HK.out _ F6.out.size) HTOK.out HL.out HLE.out hn16 x).mono ?_
              rintro e w7 ⟨r', c', U, L', rfl, hr', hu, hl', hW7, f7⟩
              obtain ⟨rfl, rfl, hs'⟩ := R6.out.eq HS.out hr'
              have W7 := Lib.hid hW7
              have F7 := Lib.hid (F6.out.trans f7)
              have HS7 := Lib.hid (hs'.trans hu)
              have HL7 := Lib.hid hl'
              have HRB := Lib.hid (R6.out.bd hn16)
              obtain ⟨Sc, hLc⟩ := hW7.l
              obtain ⟨Sd, hRd⟩ := hW7.r
              have LC := Lib.hid hLc
              have RD := Lib.hid hRd
              have HTOK7 := Lib.hid (hLc.2.1.of_sm HS7.out hl')
              have HOE := Lib.hid (ordAt_sm HS7.out hLc.2.1.keys (sorted_keys hl') r)
              clear hW7 f7 hr' hu hl' hs' hLc hRd
              go_wp2_with fail
              refine (LC.out.order r (by have := HRB.out; omega) (by have := HRB.out; omega)).mono ?_
              rintro e w8 ⟨rfl, rfl⟩
              go_wp2_with fail
              refine (rorder_any RD.out (Nat.le_trans HTOK7.out.length_le (pow16 hn16)) r).mono ?_
              rintro e w8 ⟨rfl, rfl⟩
              rw [← HOE.out]
              go_wp2_with fail
              go_meet
              exact ⟨T', L', HS7.out, HL7.out, W7.out, F7.out⟩
            · have HPB := Lib.hid (plc_bd rv x hx1 hx2 (L.map (·.1)) (fun y hy => HTOK.out.le16 hn16 hy))
              go_wp2_with fail
              go_region_held3 (fun w' => w'.cell? ⟨gx, 0, none⟩ = some (.bool true) ∧ w'.cell? ⟨gx, 1, none⟩ = some (.bool rv) ∧ w'.cell? ⟨gx, 2, none⟩ = some (.int .i64 x)) (first | go_keep | exact ⟨z0, z1, z2⟩ | exact ⟨x0, x1, x2⟩) ((first
                | (go_at_call 12; refine (rtaken_l (RB.out.fr0 (by repeat first | exact Fr.refl _ _ | refine Fr.drew ?_ | refine Fr.drewN ?_ _)) HLE.out).mono ?_; rintro e w7 ⟨A7, c7, l7, rfl, hl7, hr7, hf7⟩; have HL7 := Lib.hid hl7; clear hl7; have F7 := Lib.hid (Fr.trans (by repeat first | exact Fr.refl _ _ | refine Fr.drew ?_ | refine Fr.drewN ?_ _) hf7 : Fr (fun _ => False) w5 w7); obtain ⟨z0, z1, z2⟩ := HXW.out w7 (F7.out.mono fun _ _ h => h.elim))
                | (go_at_call 11; refine (place_any hr7 (by rw [HL7.out, List.length_map]; exact HLE.out) true rv x hx1 hx2).mono ?_; rintro e w8 ⟨rfl, hf8⟩; have F8 := Lib.hid (F7.out.trans hf8); obtain ⟨z0, z1, z2⟩ := HXW.out w8 (F8.out.mono fun _ _ h => h.elim))))
              all_goals
                have W8 := Lib.hid (W5.out.fr0 F8.out)
                have FK8 := Lib.hid (F8.out.mono (S' := K) fun _ _ h => h.elim)
                clear hr7 hf7 hf8 F7 F8 x0 x1 x2
                rw [← HL7.out] at HPB
                obtain ⟨at_, hat⟩ : ∃ at_, at_ = plc rv x l7 := ⟨_, rfl⟩
                rw [← hat] at HPB ⊢
                clear hat
                go_wp2_with fail
                refine (W8.out.give1 (HK.out _ FK8.out.size) at_ HPB.out.1 HPB.out.2).mono ?_
                rintro e w9 ⟨c, T', rfl, hr, hW9, f9⟩
                have W9 := Lib.hid hW9
                have F9 := Lib.hid (FK8.out.trans f9)
                have R9 := Lib.hid hr
                clear hW9 f9 hr
                go_wp2_with fail
                refine (W9.out.give2 (HK.out _ F9.out.size) HL.out HLE.out at_).mono ?_
                rintro e wz ⟨c', U, L', rfl, hr', hu, hl', hWz, fz⟩
                obtain ⟨rfl, hs'⟩ := R9.out.eq HS.out hr'
                have Wz := Lib.hid hWz
                have Fz := Lib.hid (F9.out.trans fz)
                have HSz := Lib.hid (hs'.trans hu)
                have HLz := Lib.hid hl'
                clear hWz fz hr' hu hl' hs'
                go_wp2_with fail
                go_meet
                exact ⟨T', L', HSz.out, HLz.out, Wz.out, Fz.out⟩
          case rest =>
            obtain ⟨T', L', hs', hl', hW, hF⟩ := hcut
            have W6 := Lib.hid hW
            have F6 := Lib.hid hF
            have HS6 := Lib.hid hs'
            have HL6 := Lib.hid hl'
            obtain ⟨Sc, hLc⟩ := hW.l
            obtain ⟨Sd, hRd⟩ := hW.r
            have LC := Lib.hid hLc
            have RD := Lib.hid hRd
            have HTOK6 := Lib.hid (hLc.2.1.of_sm hs' hl')
            have HLE6 := Lib.hid (show L'.length ≤ 65536 from Nat.le_trans HTOK6.out.length_le (pow16 hn16))
            have HOE := Lib.hid (ordAt_sm hs' hLc.2.1.keys (sorted_keys hl') x)
            have HSZ := Lib.hid (sizes_perm (hs'.perm hLc.2.1 HTOK6.out))
            have HSO := Lib.hid (sm_sort hs' hLc.2.1 hl')
            obtain ⟨gr, hgr⟩ := hLc.great
            have HGR := Lib.hid hgr
            clear hW hF hs' hl' hLc hRd hgr W5 HS HL
            go_wp2_with fail
            refine (LC.out.taken).mono ?_
            rintro e w7 ⟨g7, c7, l7, rfl, hl7, hr7, _, f7⟩
            have R7 := Lib.hid hr7
            have F7 := Lib.hid (F6.out.step f7 fun _ h => h.elim)
            have LC7 := Lib.hid (LC.out.fr0 f7)
            have RD7 := Lib.hid (RD.out.fr0 f7)
            have W7 := Lib.hid (W6.out.fr0 f7)
            have HL7 := Lib.hid hl7
            have H716 := Lib.hid (show l7.length ≤ 65536 by rw [hl7]; exact LC.out.len16)
            clear hr7 f7 hl7 LC RD W6 F6
            go_wp2_with fail
            refine (rtaken_l RD7.out HLE6.out).mono ?_
            rintro e w8 ⟨A8, c8, l8, rfl, hl8, hr8, f8⟩
            obtain rfl : l7 = l8 := by rw [HL7.out, hl8, HSO.out]
            have R8 := Lib.hid hr8
            have R78 := Lib.hid (R7.out.fr0 f8)
            have F8 := Lib.hid (F7.out.step f8 fun _ h => h.elim)
            have LC8 := Lib.hid (LC7.out.fr0 f8)
            have RD8 := Lib.hid (RD7.out.fr0 f8)
            have W8 := Lib.hid (W7.out.fr0 f8)
            clear hl8 hr8 f8 LC7 RD7 W7 F7 R7
            go_wp2_with fail
            refine (same_ints R78.out R8.out rfl rfl (by have := H716.out; omega) true (by simp)).mono ?_
            rintro e w9 ⟨rfl, k9, rfl⟩
            have f9 : Fr (fun _ => False) w8 (w8.drewN k9) := (Fr.refl _ _).drewN k9
            have F9 := Lib.hid (F8.out.step f9 fun _ h => h.elim)
            have LC9 := Lib.hid (LC8.out.fr0 f9)
            have RD9 := Lib.hid (RD8.out.fr0 f9)
            have W9 := Lib.hid (W8.out.fr0 f9)
            generalize w8.drewN k9 = w9 at *
            obtain ⟨x0, x1, x2⟩ := HXW.out w9 F9.out
            clear f9 LC8 RD8 W8 F8 x0 x1
            go_wp2_with fail
            go_region_held3 (fun w' => w'.cell? ⟨gx, 2, none⟩ = some (.int .i64 x)) (first | go_keep | exact z2 | exact x2) ((first
              | (go_at_call 21; refine (LC9.out.fr0 (by repeat first | exact Fr.refl _ _ | refine Fr.drew ?_ | refine Fr.drewN ?_ _)).free.mono ?_; rintro e wa ⟨rfl, rfl⟩)
              | (go_at_call 22; refine (rfree_any (RD9.out.fr0 (by repeat first | exact Fr.refl _ _ | refine Fr.drew ?_ | refine Fr.drewN ?_ _)) HTOK6.out HLE6.out hn16 (by rw [← HSZ.out]; exact LC9.out.sizes_le)).mono ?_; rw [← HSZ.out]; rintro e wa ⟨rfl, rfl⟩)
              | (go_at_call 23; refine ((LC9.out.fr0 (by repeat first | exact Fr.refl _ _ | refine Fr.drew ?_ | refine Fr.drewN ?_ _)).greatest HGR.out).mono ?_; rintro e wa ⟨rfl, rfl⟩)
              | (go_at_call 24; refine (rgreatest_any (RD9.out.fr0 (by repeat first | exact Fr.refl _ _ | refine Fr.drew ?_ | refine Fr.drewN ?_ _)) HTOK6.out HLE6.out hn16 (HS6.out.great HGR.out)).mono ?_; rintro e wb ⟨rfl, hfb⟩; have FB := Lib.hid (Fr.trans (by repeat first | exact Fr.refl _ _ | refine Fr.drew ?_ | refine Fr.drewN ?_ _) hfb : Fr (fun _ => False) w9 wb); obtain ⟨_, _, z2⟩ := HXW.out wb (F9.out.step FB.out fun _ h => h.elim))
              | (go_at_call 17; refine ((LC9.out.fr0 FB.out).order x hx1 hx2).mono ?_; rintro e wc ⟨rfl, rfl⟩)
              | (go_at_call 18; refine (rorder_any (RD9.out.fr0 FB.out) HLE6.out x).mono ?_; rw [← HOE.out]; rintro e wc ⟨rfl, rfl⟩)))
            all_goals
              have WB := Lib.hid ((W9.out.fr0 FB.out).mono HKB.out)
              have BB := Lib.hid (below_fr B5.out (F9.out.step FB.out fun _ h => h.elim) B5.out.size HKB.out)
              clear hfb
              go_wp2_with fail
              go_roundw
              case rel => exact ⟨j + 1, T', L', by omega, by go_num, HS6.out, HL6.out, WB.out, BB.out⟩
              case measure => simp [intOf]; omega
        · have h1I : (j : Int) < (len : Int) := by omega
          have h2I : ¬ (j : Int) < 120 := by omega
          go_wp2_with fail
          go_ret
          exact ⟨rfl, B4.out⟩
      · have h1I : ¬ (j : Int) < (len : Int) := by omega
        go_wp2_with fail
        go_ret
        exact ⟨rfl, B4.out⟩
end Go.Proofs.Ytncjhfofmeamdaa
