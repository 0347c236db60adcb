/- Tick. -/
import Derived.Test.YtgmeebpgncenmaaTik0
import Derived.Test.YtgmeebpgncenmaaSrt
namespace Go.Proofs.Ytgmeebpgncenmaa
open Go.RowKit

set_option maxRecDepth 100000 in
set_option maxHeartbeats 3200000 in
theorem tick_any (b m now added : Nat) (A : Nat → Option Addr) (c : Nat → Nat) (X : Nat → List Tm) (L : List Tm) (w : World) (h : Wh w b m now added A c X L) (hst : St X L [] now now now)
    (hnum : L.Pairwise fun x y => x.num < y.num) (hL : L.length ≤ 1000) (hnow : now < 1152921504606846976) :
    Calls Try.prog 10 #[.pointer (some ⟨b, 0, none⟩)] w (Ticked w b m now added A L) := by
  have c0 := h.cnow
  have z0 := h.frozen 0
  have hlt := h.lt
  have HL := Lib.hid hL
  have HN := Lib.hid hnum
  have hM : Mid w b m now (now + 1) added A L 2 (w.setCell ⟨b, 0, none⟩ (.int .i64 ((now : Int) + 1))) := ⟨A, c, X, h.setNow (now + 1), hst, (Fr.refl _ w).setCell (.inl (.inl rfl)) _, fun i hi => .inl hi⟩
  have HM := Lib.hid hM
  clear hM h hst hnum hL
  go_enter Try.func10, Try.ntmps10
  go_wp2_with fail
  clear c0 z0
  obtain ⟨nw, hnw⟩ : ∃ nw, nw = now + 1 := ⟨_, rfl⟩
  have HNW := Lib.hid hnw
  have hnwb : nw ≤ 1152921504606846976 := by omega
  rw [← hnw] at HM
  clear hnw
  go_loopw [3] (fun i wr => ∃ r : Nat, r ≤ 2 ∧ i = .int .i64 (r : Int) ∧ Mid w b m now nw added A L r wr) (fun i _ => (intOf i).toNat)
  case atStart => exact ⟨2, by omega, rfl, HM.out⟩
  case round =>
    obtain ⟨r, hr, rfl, hM⟩ := hrel
    have : r = 0 ∨ r = 1 ∨ r = 2 := by omega
    rcases this with rfl | rfl | rfl
    · obtain ⟨A1, c1, X1, h1, s1, f1, n1⟩ := hM
      have c0 := h1.cnow
      have hlb := h1.lt
      obtain ⟨q, hq⟩ : ∃ q, q = nw % 16 := ⟨_, rfl⟩
      have hk : q < 48 := by omega
      have cr : wr.cell? ⟨b, 2 + nw % 16, none⟩ = some (.slice (A1 q) (X1 q).length (c1 q)) := by
        rw [← hq]; exact h1.crim _ hk
      have hll : (X1 q).length ≤ 1000 := Nat.le_trans (St.len s1 _ hk) HL.out
      have hdue : ∀ t, t ∈ X1 q → t.due = nw := fun t ht => by
        have e := HNW.out
        subst e
        subst hq
        exact ((St.due s1 t).1 ht).2
      have HD := Lib.hid hdue
      have H1 := Lib.hid h1
      have S1 := Lib.hid s1
      have F1 := Lib.hid f1
      have N1 := Lib.hid n1
      have HQ := Lib.hid hq
      clear h1 s1 f1 n1 hq hdue
      go_wp2_with fail
      go_quiet (fail)
      go_wp2_with fail
      rw [← HQ.out]
      have ho1 := H1.out.own q hk
      generalize hAq : A1 q = Aq at *
      have HAq := Lib.hid hAq
      generalize hCq : c1 q = cq at *
      have HCq := Lib.hid hCq
      generalize hXq : X1 q = l at *
      have HXq := Lib.hid hXq
      clear hAq hCq hXq cr c0
      have HO1 := Lib.hid ho1
      clear ho1
      go_loopw [10, 11, 87] (fun v10 v11 i wi => ∃ (j dc : Nat) (D : Option Addr), j ≤ l.length ∧ i = .int .i64 (j : Int) ∧ v10 = .slice D j dc ∧ v11 = .slice none 0 0 ∧ Gath w b m nw added A A1 c1 X1 L D j dc (tcs (l.take j)) wi) (fun _ _ i _ => l.length - (intOf i).toNat)
      case atStart => exact ⟨0, 0, none, Nat.zero_le _, rfl, rfl, rfl, Own.nil_ _ _ _, H1.out.fr0 ((Fr.refl _ _).drewN _), F1.out.drewN _, nofun⟩
      case round =>
        obtain ⟨j, dc, D, hj, rfl, rfl, rfl, hG⟩ := hrel
        by_cases hjl : j < l.length
        · have h2 := hG.2.1
          have hoq := h2.own q hk
          rw [HAq.out, HCq.out, HXq.out] at hoq
          have hAs := hoq.some_ (by omega)
          obtain ⟨g, hAg⟩ := hAs
          subst hAg
          obtain ⟨t, ht⟩ : ∃ t, l[j]? = some t := ⟨_, List.getElem?_eq_getElem hjl⟩
          have hdn := HD.out t (List.mem_of_getElem? ht)
          obtain ⟨tc0, tc1, tc2⟩ := tcs_cell l j t ht
          have g0 := hoq.cell (j * 3) (by omega)
          have g1 := hoq.cell (j * 3 + 1) (by omega)
          have g2 := hoq.cell (j * 3 + 2) (by omega)
          rw [tc0] at g0
          rw [tc1, hdn] at g1
          rw [tc2] at g2
          have htk : tcs (l.take j) ++ [Value.int .i64 t.id, Value.int .i64 (nw : Int), Value.int .i64 (t.num : Int)] = tcs (l.take (j + 1)) := by
            rw [List.take_succ_eq_append_getElem hjl, tcs_append, tcs_one]
            rw [List.getElem?_eq_getElem hjl] at ht
            rw [Option.some.inj ht, Tm.cs, hdn]
          have HTK := Lib.hid htk
          have hlb2 := h2.lt
          have c0 := h2.cnow
          have HG := Lib.hid hG
          have HJ := Lib.hid hj
          clear hoq tc0 tc1 tc2 htk h2 hG ht hdn hj
          go_wp2_with fail
          go_quiet (fail)
          have hB : Blk ((wr.alloc (.cells #[.int .i64 t.id, .int .i64 (nw : Int), .int .i64 (t.num : Int)] 55)).drewN nq) wr.heap.size 55 #[.int .i64 t.id, .int .i64 (nw : Int), .int .i64 (t.num : Int)] := Blk.new _ _ _
          have HG2 := Lib.hid (HG.out.fr0 (((Fr.refl _ wr).alloc (.cells #[.int .i64 t.id, .int .i64 (nw : Int), .int .i64 (t.num : Int)] 55)).drewN nq))
          clear g0 g1 g2 HG hlb2 c0
          generalize (wr.alloc (.cells #[.int .i64 t.id, .int .i64 (nw : Int), .int .i64 (t.num : Int)] 55)).drewN nq = W2 at *
          generalize wr.heap.size = gt at *
          have k0 := hB.cell 0
          have k1 := hB.cell 1
          have k2 := hB.cell 2
          simp only [List.getElem?_toArray, List.getElem?_cons_zero, List.getElem?_cons_succ] at k0 k1 k2
          have hlt2 := hB.lt
          obtain ⟨i0, hi, hz0, hz1, hz2⟩ := info_parts info_tm
          go_wp2_with (at_builtin; refine wpList_append1 W2 rfl (.tmp 98) (.tmp 100) 47 rfl 55 i0 _ 3 24 Try.underlying47 hi hz0 hz1 hz2 rfl (by omega) D j dc _ rfl HG2.out.1 [.int .i64 t.id, .int .i64 (nw : Int), .int .i64 (t.num : Int)] rfl rfl ?_ ?_ ?_ ?_)
          · intro u hu; simp at hu; rcases hu with rfl | rfl | rfl <;> rfl
          · omega
          · omega
          · intro g' c' w5 ho f7 hg'
            rw [HTK.out] at ho
            have HG5 := Lib.hid (HG2.out.more ho f7 hg')
            clear ho f7 hg' k0 k1 k2 hB
            go_wp2_with fail
            go_roundw
            case rel => (repeat apply Exists.intro); exact ⟨⟨j + 1, c', some ⟨g', 0, none⟩, by omega, by go_num, rfl, rfl, HG5.out⟩, rfl⟩
            case measure => simp [intOf]; omega
        · obtain rfl : j = l.length := by omega
          rw [List.take_of_length_le (Nat.le_refl _)] at hG
          have hlb2 := hG.2.1.lt
          have zr := hG.2.1.frozen (2 + q)
          have cr := hG.2.1.crim q hk
          have hC := hG.clear hk
          have HS := Lib.hid (sort_all hC.1 (by omega))
          have HC := Lib.hid hC
          clear hG hC hj
          go_wp2_with fail
          refine HS.out.mono ?_
          rintro e w4 ⟨rfl, d, hp, hs, ho, hf⟩
          have hd : d = dueL L nw := by
            have e := HNW.out
            subst e
            have e2 := HQ.out
            have e3 := HXq.out
            subst e2
            subst e3
            exact due_sorted S1.out HN.out hp hs
          have hdl : d.length = l.length := hp.length_eq
          have hT := HC.out.turned ho hf
          have HT := Lib.hid hT
          have HDD := Lib.hid hd
          have HDL := Lib.hid hdl
          clear hT hd hdl hp hs ho hf HC HS cr zr hlb2
          go_wp2_with fail
          have HIDS := Lib.hid H1.out.ids
          clear H1 F1 HO1
          go_loopw [14, 114] (fun v14 i wi => ∃ (j rc : Nat) (R : Option Addr), j ≤ l.length ∧ i = .int .i64 (j : Int) ∧ v14 = .slice R j rc ∧ Own wi 3 1 R j rc ((d.map idV).take j) ∧ (∀ g, R = some ⟨g, 0, none⟩ → w.heap.size ≤ g ∧ ¬ Wf b m (upd A1 q none) g) ∧
            Gath w b m nw added A (upd A1 q none) (upd c1 q 0) (upd X1 q []) (lessL L (d.take j)) D l.length dc (tcs d) wi) (fun _ i _ => l.length - (intOf i).toNat)
          case atStart => exact ⟨0, 0, none, Nat.zero_le _, rfl, rfl, Own.nil_ _ _ _, nofun, by rw [List.take_zero, lessL_nil]; exact HT.out⟩
          case round =>
            obtain ⟨j, rc, R, hj, rfl, rfl, hR, hRn, hG⟩ := hrel
            by_cases hjl : j < l.length
            · obtain ⟨g, rfl⟩ := hG.1.some_ (by omega)
              obtain ⟨t, ht⟩ : ∃ t, d[j]? = some t := ⟨_, List.getElem?_eq_getElem (by have := HDL.out; omega)⟩
              obtain ⟨tc0, tc1, tc2⟩ := tcs_cell d j t ht
              have g0 := hG.1.cell (j * 3) (by omega)
              have g1 := hG.1.cell (j * 3 + 1) (by omega)
              have g2 := hG.1.cell (j * 3 + 2) (by omega)
              rw [tc0] at g0
              rw [tc1] at g1
              rw [tc2] at g2
              have htk : d.take (j + 1) = d.take j ++ [t] := by
                rw [List.take_succ_eq_append_getElem (by have := HDL.out; omega)]
                rw [List.getElem?_eq_getElem (by have := HDL.out; omega)] at ht
                rw [Option.some.inj ht]
              obtain ⟨ix, hix⟩ : ∃ i : Nat, (lessL L (d.take j))[i]? = some t := by
                have e := HDD.out
                subst e
                exact due_next HN.out HIDS.out ht
              have HTK := Lib.hid htk
              have HIX := Lib.hid hix
              have HG := Lib.hid hG
              have HR := Lib.hid hR
              have HRN := Lib.hid hRn
              have HJ := Lib.hid hj
              have hgl := hG.1.lt rfl
              clear tc0 tc1 tc2 htk hG ht hix hR hRn hj
              have f3 : Fr (fun _ => False) wr (wr.alloc (.cells #[.int .i64 t.id, .int .i64 (t.due : Int), .int .i64 (t.num : Int)] 55)) := (Fr.refl _ _).alloc _
              have hB : Blk (wr.alloc (.cells #[.int .i64 t.id, .int .i64 (t.due : Int), .int .i64 (t.num : Int)] 55)) wr.heap.size 55 #[.int .i64 t.id, .int .i64 (t.due : Int), .int .i64 (t.num : Int)] := Blk.new _ _ _
              have hRg : ∀ g, R = some ⟨g, 0, none⟩ → g ≠ wr.heap.size := fun g' e => Nat.ne_of_lt (HR.out.lt e)
              have hWg : ∀ i, Wf b m (upd A1 q none) i → i ≠ wr.heap.size := fun i hi => Nat.ne_of_lt (HG.out.2.1.in_ hi)
              go_wp2_with fail
              have HG2 := Lib.hid (HG.out.fr0 f3)
              have HR2 := Lib.hid (HR.out.fr f3 fun _ _ => id)
              have HRG := Lib.hid hRg
              have HWG := Lib.hid hWg
              clear g0 g1 g2 HG HR f3 hgl hRg hWg
              generalize wr.alloc (.cells #[.int .i64 t.id, .int .i64 (t.due : Int), .int .i64 (t.num : Int)] 55) = W2 at *
              generalize wr.heap.size = gt at *
              have k0 := hB.cell 0
              simp only [List.getElem?_toArray, List.getElem?_cons_zero] at k0
              have hgt := hB.lt
              have hlb2 := HG2.out.2.1.lt
              have c50 := HG2.out.2.1.cmap
              have hix2 : ((lessL L (d.take j)).map fun t => (t.id, t))[ix]? = some (t.id, t) := by rw [List.getElem?_map, HIX.out]; rfl
              obtain ⟨w5, hrun, hm5, f5, s5⟩ := (HG2.out.2.1.map.drewN 1).drop_some (ty := 0) keyed3 Try.underlying46 hix2
              have hrun' : (Builtin.delete_ #[46, 3] 0 #[.map (some m), .int .i64 t.id]).run Try.prog W2.drew = .ok (.tuple #[]) w5 := hrun
              have hm5' : MapIs Try.prog 3 kfI Tm.v w5 m ((lessL L (d.take (j + 1))).map fun t => (t.id, t)) := by
                rw [HTK.out, lessL_snoc]
                rw [strike HG2.out.2.1.ids HIX.out] at hm5
                exact hm5
              have HG5 := Lib.hid (Gath.remap (HG2.out.fr0 ((Fr.refl _ W2).drewN 1)) f5 hm5')
              have HR5 := Lib.hid ((HR2.out.fr (Fr.refl (fun i => i = m) W2).drew fun g' e h1 => (HRN.out g' e).2 (.inr (.inl h1))).fr f5 fun g' e h1 => (HRN.out g' e).2 (.inr (.inl h1)))
              have hB5 : Blk w5 gt 55 _ := Blk.fr hB.drew f5 (fun e => HWG.out m (.inr (.inl rfl)) e.symm)
              clear hrun hm5 hix2 hm5' HG2 HR2 hB
              go_region
              have k5 := hB5.cell 0
              simp only [List.getElem?_toArray, List.getElem?_cons_zero] at k5
              have hMT : (d.map idV).take j ++ [Value.int .i64 t.id] = (d.map idV).take (j + 1) := by rw [← List.map_take, ← List.map_take, HTK.out, List.map_append]; rfl
              have HMT := Lib.hid hMT
              clear hMT hrun' k0 c50 hlb2 f5 s5 hB5 hgt
              obtain ⟨i0, hi, hz0, hz1, hz2⟩ := info_parts info_i64
              go_wp2_with (at_builtin; refine wpList_append1 w5 rfl (.tmp 124) (.tmp 127) 25 rfl 3 i0 _ 1 8 Try.underlying25 hi hz0 hz1 hz2 rfl (by omega) R j rc _ rfl HR5.out [.int .i64 t.id] rfl rfl ?_ ?_ ?_ ?_)
              · intro u hu; simp at hu; subst hu; rfl
              · omega
              · omega
              · intro g' c' w6 ho f7 hg'
                rw [HMT.out] at ho
                obtain ⟨hG6, hn1, hn2⟩ := HG5.out.told HR5.out HRN.out f7 hg'
                have HG6 := Lib.hid hG6
                have HO6 := Lib.hid ho
                clear ho f7 hg' k5 hG6
                go_wp2_with fail
                go_roundw
                case rel => exact ⟨j + 1, c', some ⟨g', 0, none⟩, by omega, by go_num, rfl, HO6.out, fun g e => by rw [Option.some.injEq, Addr.mk.injEq] at e; rw [← e.1]; exact ⟨hn1, hn2⟩, HG6.out⟩
                case measure => simp [intOf]; omega
            · obtain rfl : j = l.length := by omega
              rw [List.take_of_length_le (by have := HDL.out; omega)] at hG
              rw [List.take_of_length_le (by have := HDL.out; rw [List.length_map]; omega)] at hR
              have hfin : Ticked w b m now added A L (.returned (.slice R l.length rc)) wr := by
                have e := HNW.out
                have e1 := HDD.out
                have e2 := HDL.out
                have e3 := HQ.out
                subst e
                subst e1
                subst e3
                rw [lessL_due HIDS.out] at hG
                rw [← e2] at hR ⊢
                exact ⟨_, _, _, R, rc, rfl, hR, hG.2.1, St.ticked S1.out, hG.2.2.1, fun i hi => N1.out i (wf_none i hi), fun g hg => (hRn g hg).1⟩
              have HF := Lib.hid hfin
              clear hfin hR hG hRn hj
              go_wp2_with fail
              go_ret
              exact HF.out
    · obtain ⟨A1, c1, X1, h1, s1, f1, n1⟩ := hM
      have c0 := h1.cnow
      have hlb := h1.lt
      obtain ⟨q, hq⟩ : ∃ q, q = nw / 16 % 16 := ⟨_, rfl⟩
      have hk : 16 + q < 48 := by omega
      have cr : wr.cell? ⟨b, 18 + nw / 16 % 16, none⟩ = some (.slice (A1 (16 + q)) (X1 (16 + q)).length (c1 (16 + q))) := by
        rw [← hq, show 18 + q = 2 + (16 + q) by omega]; exact h1.crim _ hk
      have zr := h1.frozen (18 + nw / 16 % 16)
      have H1 := Lib.hid h1
      have S1 := Lib.hid s1
      have F1 := Lib.hid f1
      have N1 := Lib.hid n1
      have HQ := Lib.hid hq
      clear h1 s1 f1 n1 hq
      go_upto_block 1 with fail
      go_cut [4] (fun _ wx => Mid w b m now nw added A L 0 wx)
      case first =>
        go_wp2_with fail
        by_cases hm : nw % 16 = 0
        · have hm1 : ((nw : Int) % 16 != 0) = false := by simp; omega
          obtain ⟨s2, p2⟩ : StR (upd X1 (16 + q) []) L (X1 (16 + q)) now 0 ∧ ∀ t, t ∈ X1 (16 + q) → nw ≤ t.due ∧ Pl now (now + 1) (now + 1) (slotI nw t.due) t := by
            have e := HNW.out
            have e2 := HQ.out
            subst e
            subst e2
            exact StR.take1 S1.out hm
          have S2 := Lib.hid s2
          have P2 := Lib.hid p2
          clear hm s2 p2
          go_quiet ((go_at_call 25; first | exact Calls.quiet_of_same (left_same (span_1 _)) | exact quiet_add_same (left_same (span_1 _))))
          go_wp2_with fail
          go_quiet ((go_at_call 25; first | exact Calls.quiet_of_same (left_same (span_1 _)) | exact quiet_add_same (left_same (span_1 _))))
          go_wp2_with fail
          have hY := fun N => Lay.begin_ (W := wr.drewN N) (H1.out.fr0 ((Fr.refl _ _).drewN N)) hk S2.out (F1.out.drewN N) N1.out
          rw [show 2 + (16 + q) = 18 + q by omega] at hY
          rw [← HQ.out]
          have hll : (X1 (16 + q)).length ≤ 1000 := Nat.le_trans (St.len S1.out _ hk) HL.out
          generalize A1 (16 + q) = B at *
          generalize c1 (16 + q) = cb at *
          have P3 := Lib.hid P2.out
          generalize X1 (16 + q) = l at *
          have HY := Lib.hid hY
          clear hY cr zr c0 H1 S1 F1 N1 S2 P2
          go_loopw [57] (fun i wi => ∃ j : Nat, j ≤ l.length ∧ i = .int .i64 (j : Int) ∧ Lay w b m now nw added A L 0 B cb l (l.drop j) wi) (fun i _ => l.length - (intOf i).toNat)
          case atStart => exact ⟨0, Nat.zero_le _, rfl, HY.out _⟩
          case round =>
            rename_i wi _ _ _ _ _ _ _ _ _ _ _ _ _ _ _ _ _ _
            obtain ⟨j, hj, rfl, hLy⟩ := hrel
            clear HY
            by_cases hjl : j < l.length
            · obtain ⟨A2, c2, X2, h2, s2, f2, n2, o2, b2⟩ := hLy
              obtain ⟨g, rfl⟩ := o2.some_ (by omega)
              obtain ⟨t, ht⟩ : ∃ t, l[j]? = some t := ⟨_, List.getElem?_eq_getElem hjl⟩
              have hmem : t ∈ l := List.mem_of_getElem? ht
              obtain ⟨hd1, hp⟩ := P3.out t hmem
              have hdr : l.drop j = t :: l.drop (j + 1) := by
                rw [List.drop_eq_getElem_cons hjl]
                rw [List.getElem?_eq_getElem hjl] at ht
                rw [Option.some.inj ht]
              have hd2 := hp.le nw (by have := HNW.out; omega) (by have := HNW.out; omega) (by have := HNW.out; omega)
              have HP := Lib.hid hp
              obtain ⟨tc0, tc1, tc2⟩ := tcs_cell l j t ht
              have g0 := o2.cell (j * 3) (by omega)
              have g1 := o2.cell (j * 3 + 1) (by omega)
              have g2 := o2.cell (j * 3 + 2) (by omega)
              rw [tc0] at g0
              rw [tc1] at g1
              rw [tc2] at g2
              rw [hdr] at s2
              have H2 := Lib.hid h2
              have S2 := Lib.hid s2
              have F2 := Lib.hid f2
              have N2 := Lib.hid n2
              have O2 := Lib.hid o2
              have B2 := Lib.hid b2
              have HJ := Lib.hid hj
              have HMEM := Lib.hid hmem
              clear h2 s2 f2 n2 o2 b2 tc0 tc1 tc2 hdr hp ht hmem hj
              obtain ⟨k, hkk⟩ : ∃ k, slotI nw t.due = k := ⟨_, rfl⟩
              have hk : k < 48 := hkk ▸ slotI_lt nw t.due
              rw [hkk] at HP
              have HKK := Lib.hid hkk
              clear hkk
              go_wp2_with fail
              have hs := fun W (hh : Wh W b m nw added A2 c2 X2 L) => slot_any b nw t.due t.num t.id W hh.cnow hh.lt hd1 (by omega)
              rw [HKK.out] at hs
              have f3 : Fr (fun _ => False) wr (wr.alloc (.cells #[.int .i64 t.id, .int .i64 (t.due : Int), .int .i64 (t.num : Int)] 55)) := (Fr.refl _ _).alloc _
              have hB : Blk (wr.alloc (.cells #[.int .i64 t.id, .int .i64 (t.due : Int), .int .i64 (t.num : Int)] 55)) wr.heap.size 55 #[.int .i64 t.id, .int .i64 (t.due : Int), .int .i64 (t.num : Int)] := Blk.new _ _ _
              have hg := O2.out.lt rfl
              refine (hs _ (H2.out.fr0 f3)).mono ?_
              rintro e w3 ⟨rfl, f4⟩
              have hB4 := hB.fr f4 (fun x => x)
              have f5 : Fr (fun _ => False) wr w3 := f3.step f4 fun i hi => hi.elim
              have h4 := H2.out.fr0 f5
              have f6 := F2.out.step f5 fun i hi => hi.elim
              have o4 := O2.out.fr f5 fun _ _ => id
              clear hs f3 f4 hB g0 g1 g2 hg H2 F2 O2
              generalize wr.heap.size = gt at *
              have k0 := hB4.cell 0
              have k1 := hB4.cell 1
              have k2 := hB4.cell 2
              simp only [List.getElem?_toArray, List.getElem?_cons_zero, List.getElem?_cons_succ] at k0 k1 k2
              have hlt4 := hB4.lt
              have hlb4 := h4.lt
              have cr := h4.crim k hk
              have zr := h4.frozen (2 + k)
              have hol := h4.own k hk
              have hcap : (X2 k).length ≤ 1000 := Nat.le_trans (St.len S2.out k hk) HL.out
              obtain ⟨i0, hi, hz0, hz1, hz2⟩ := info_parts info_tm
              obtain ⟨g', c', w5, hrun, ho, f7, hg'⟩ := run_append1 (P := Try.prog) w3.drew 47 47 55 i0 _ 3 24 Try.underlying47 hi hz0 hz1 hz2 rfl (by omega) (A2 k) (X2 k).length (c2 k) _ hol
                (Tm.cs t) rfl (by simp [Tm.cs, Value.oneCell']) (by omega) (by omega)
              have hrun' : (Builtin.append_ #[47, 47] 47 #[.slice (A2 k) (X2 k).length (c2 k), .slice (some ⟨w3.heap.size, 0, none⟩) 1 1]).run Try.prog (w3.alloc (.cells #[.int .i64 t.id, .int .i64 (t.due : Int), .int .i64 (t.num : Int)] 55)).drew = .ok (.slice (some ⟨g', 0, none⟩) ((X2 k).length + 1) c') w5 := hrun
              clear hrun
              have cr5 : w5.cell? ⟨b, 2 + k, none⟩ = some (.slice (A2 k) (X2 k).length (c2 k)) := (f7.cell h4.lt (fun e => h4.ba hk e rfl)).trans cr
              have zr5 : w5.frozen? ⟨b, 2 + k, none⟩ = false := (f7.frozen h4.lt (fun e => h4.ba hk e rfl)).trans zr
              have HX := Lib.hid (Lay.put (r := 0) (h4.fr0 (Fr.refl _ w3).drew) S2.out f6.drew N2.out (o4.fr (Fr.refl _ w3).drew fun _ _ => id) B2.out hk HP.out f7 ho hg')
              have H := Lib.hid hrun'
              clear hrun' ho f7 hg' hol h4 hB4 o4 f6 S2 N2 B2 HP hi hz0 hz1 hz2 hcap
              go_wp2_with fail
              go_region_law (refine step_append_run rfl (.tmp 67) (.tmp 69) 47 (by rfl) _ _ _ _ (by rfl) (by rfl) H.out ?_)
              all_goals go_wp2_with fail
              all_goals go_roundw
              all_goals first
                | (case measure => simp [intOf]; omega)
                | ((repeat apply Exists.intro); exact ⟨⟨j + 1, by omega, by go_num, HX.out⟩, rfl⟩)
            · rw [List.drop_eq_nil_of_le (by omega)] at hLy
              have HLy := Lib.hid (Lay.done hLy)
              clear hLy
              go_wp2_with fail
              go_meet
              exact HLy.out
        · have hm1 : ((nw : Int) % 16 != 0) = true := by rw [bne_iff_ne]; omega
          have S2 : Hid (StR X1 L [] now 0) := Lib.hid (StR.same1 S1.out (by have := HNW.out; omega))
          clear hm
          go_quiet ((go_at_call 25; first | exact Calls.quiet_of_same (left_same (span_1 _)) | exact quiet_add_same (left_same (span_1 _))))
          go_wp2_with fail
          go_meet
          exact ⟨A1, c1, X1, H1.out.fr0 ((Fr.refl _ _).drewN _), S2.out, F1.out.drewN _, N1.out⟩
      case rest =>
        have HC := Lib.hid hcut
        clear hcut c0 cr zr H1 S1 F1 N1
        go_wp2_with fail
        go_roundw
        case rel => exact ⟨0, by omega, by go_num, HC.out⟩
        case measure => simp [intOf]
    · obtain ⟨A1, c1, X1, h1, s1, f1, n1⟩ := hM
      have c0 := h1.cnow
      have hlb := h1.lt
      obtain ⟨q, hq⟩ : ∃ q, q = nw / 256 % 16 := ⟨_, rfl⟩
      have hk : 32 + q < 48 := by omega
      have cr : wr.cell? ⟨b, 34 + nw / 256 % 16, none⟩ = some (.slice (A1 (32 + q)) (X1 (32 + q)).length (c1 (32 + q))) := by
        rw [← hq, show 34 + q = 2 + (32 + q) by omega]; exact h1.crim _ hk
      have zr := h1.frozen (34 + nw / 256 % 16)
      have H1 := Lib.hid h1
      have S1 := Lib.hid s1
      have F1 := Lib.hid f1
      have N1 := Lib.hid n1
      have HQ := Lib.hid hq
      clear h1 s1 f1 n1 hq
      go_upto_block 1 with fail
      go_cut [4] (fun _ wx => Mid w b m now nw added A L 1 wx)
      case first =>
        go_wp2_with fail
        by_cases hm : nw % 256 = 0
        · have hm1 : ((nw : Int) % 256 != 0) = false := by simp; omega
          obtain ⟨s2, p2⟩ : StR (upd X1 (32 + q) []) L (X1 (32 + q)) now 1 ∧ ∀ t, t ∈ X1 (32 + q) → nw ≤ t.due ∧ Pl now now (now + 1) (slotI nw t.due) t := by
            have e := HNW.out
            have e2 := HQ.out
            subst e
            subst e2
            exact StR.take2 S1.out hm
          have S2 := Lib.hid s2
          have P2 := Lib.hid p2
          clear hm s2 p2
          go_quiet ((go_at_call 25; first | exact Calls.quiet_of_same (left_same (span_2 _)) | exact quiet_add_same (left_same (span_2 _))))
          go_wp2_with fail
          go_quiet ((go_at_call 25; first | exact Calls.quiet_of_same (left_same (span_2 _)) | exact quiet_add_same (left_same (span_2 _))))
          go_wp2_with fail
          have hY := fun N => Lay.begin_ (W := wr.drewN N) (H1.out.fr0 ((Fr.refl _ _).drewN N)) hk S2.out (F1.out.drewN N) N1.out
          rw [show 2 + (32 + q) = 34 + q by omega] at hY
          rw [← HQ.out]
          have hll : (X1 (32 + q)).length ≤ 1000 := Nat.le_trans (St.len S1.out _ hk) HL.out
          generalize A1 (32 + q) = B at *
          generalize c1 (32 + q) = cb at *
          have P3 := Lib.hid P2.out
          generalize X1 (32 + q) = l at *
          have HY := Lib.hid hY
          clear hY cr zr c0 H1 S1 F1 N1 S2 P2
          go_loopw [57] (fun i wi => ∃ j : Nat, j ≤ l.length ∧ i = .int .i64 (j : Int) ∧ Lay w b m now nw added A L 1 B cb l (l.drop j) wi) (fun i _ => l.length - (intOf i).toNat)
          case atStart => exact ⟨0, Nat.zero_le _, rfl, HY.out _⟩
          case round =>
            rename_i wi _ _ _ _ _ _ _ _ _ _ _ _ _ _ _ _ _ _
            obtain ⟨j, hj, rfl, hLy⟩ := hrel
            clear HY
            by_cases hjl : j < l.length
            · obtain ⟨A2, c2, X2, h2, s2, f2, n2, o2, b2⟩ := hLy
              obtain ⟨g, rfl⟩ := o2.some_ (by omega)
              obtain ⟨t, ht⟩ : ∃ t, l[j]? = some t := ⟨_, List.getElem?_eq_getElem hjl⟩
              have hmem : t ∈ l := List.mem_of_getElem? ht
              obtain ⟨hd1, hp⟩ := P3.out t hmem
              have hdr : l.drop j = t :: l.drop (j + 1) := by
                rw [List.drop_eq_getElem_cons hjl]
                rw [List.getElem?_eq_getElem hjl] at ht
                rw [Option.some.inj ht]
              have hd2 := hp.le nw (by have := HNW.out; omega) (by have := HNW.out; omega) (by have := HNW.out; omega)
              have HP := Lib.hid hp
              obtain ⟨tc0, tc1, tc2⟩ := tcs_cell l j t ht
              have g0 := o2.cell (j * 3) (by omega)
              have g1 := o2.cell (j * 3 + 1) (by omega)
              have g2 := o2.cell (j * 3 + 2) (by omega)
              rw [tc0] at g0
              rw [tc1] at g1
              rw [tc2] at g2
              rw [hdr] at s2
              have H2 := Lib.hid h2
              have S2 := Lib.hid s2
              have F2 := Lib.hid f2
              have N2 := Lib.hid n2
              have O2 := Lib.hid o2
              have B2 := Lib.hid b2
              have HJ := Lib.hid hj
              have HMEM := Lib.hid hmem
              clear h2 s2 f2 n2 o2 b2 tc0 tc1 tc2 hdr hp ht hmem hj
              obtain ⟨k, hkk⟩ : ∃ k, slotI nw t.due = k := ⟨_, rfl⟩
              have hk : k < 48 := hkk ▸ slotI_lt nw t.due
              rw [hkk] at HP
              have HKK := Lib.hid hkk
              clear hkk
              go_wp2_with fail
              have hs := fun W (hh : Wh W b m nw added A2 c2 X2 L) => slot_any b nw t.due t.num t.id W hh.cnow hh.lt hd1 (by omega)
              rw [HKK.out] at hs
              have f3 : Fr (fun _ => False) wr (wr.alloc (.cells #[.int .i64 t.id, .int .i64 (t.due : Int), .int .i64 (t.num : Int)] 55)) := (Fr.refl _ _).alloc _
              have hB : Blk (wr.alloc (.cells #[.int .i64 t.id, .int .i64 (t.due : Int), .int .i64 (t.num : Int)] 55)) wr.heap.size 55 #[.int .i64 t.id, .int .i64 (t.due : Int), .int .i64 (t.num : Int)] := Blk.new _ _ _
              have hg := O2.out.lt rfl
              refine (hs _ (H2.out.fr0 f3)).mono ?_
              rintro e w3 ⟨rfl, f4⟩
              have hB4 := hB.fr f4 (fun x => x)
              have f5 : Fr (fun _ => False) wr w3 := f3.step f4 fun i hi => hi.elim
              have h4 := H2.out.fr0 f5
              have f6 := F2.out.step f5 fun i hi => hi.elim
              have o4 := O2.out.fr f5 fun _ _ => id
              clear hs f3 f4 hB g0 g1 g2 hg H2 F2 O2
              generalize wr.heap.size = gt at *
              have k0 := hB4.cell 0
              have k1 := hB4.cell 1
              have k2 := hB4.cell 2
              simp only [List.getElem?_toArray, List.getElem?_cons_zero, List.getElem?_cons_succ] at k0 k1 k2
              have hlt4 := hB4.lt
              have hlb4 := h4.lt
              have cr := h4.crim k hk
              have zr := h4.frozen (2 + k)
              have hol := h4.own k hk
              have hcap : (X2 k).length ≤ 1000 := Nat.le_trans (St.len S2.out k hk) HL.out
              obtain ⟨i0, hi, hz0, hz1, hz2⟩ := info_parts info_tm
              obtain ⟨g', c', w5, hrun, ho, f7, hg'⟩ := run_append1 (P := Try.prog) w3.drew 47 47 55 i0 _ 3 24 Try.underlying47 hi hz0 hz1 hz2 rfl (by omega) (A2 k) (X2 k).length (c2 k) _ hol
                (Tm.cs t) rfl (by simp [Tm.cs, Value.oneCell']) (by omega) (by omega)
              have hrun' : (Builtin.append_ #[47, 47] 47 #[.slice (A2 k) (X2 k).length (c2 k), .slice (some ⟨w3.heap.size, 0, none⟩) 1 1]).run Try.prog (w3.alloc (.cells #[.int .i64 t.id, .int .i64 (t.due : Int), .int .i64 (t.num : Int)] 55)).drew = .ok (.slice (some ⟨g', 0, none⟩) ((X2 k).length + 1) c') w5 := hrun
              clear hrun
              have cr5 : w5.cell? ⟨b, 2 + k, none⟩ = some (.slice (A2 k) (X2 k).length (c2 k)) := (f7.cell h4.lt (fun e => h4.ba hk e rfl)).trans cr
              have zr5 : w5.frozen? ⟨b, 2 + k, none⟩ = false := (f7.frozen h4.lt (fun e => h4.ba hk e rfl)).trans zr
              have HX := Lib.hid (Lay.put (r := 1) (h4.fr0 (Fr.refl _ w3).drew) S2.out f6.drew N2.out (o4.fr (Fr.refl _ w3).drew fun _ _ => id) B2.out hk HP.out f7 ho hg')
              have H := Lib.hid hrun'
              clear hrun' ho f7 hg' hol h4 hB4 o4 f6 S2 N2 B2 HP hi hz0 hz1 hz2 hcap
              go_wp2_with fail
              go_region_law (refine step_append_run rfl (.tmp 67) (.tmp 69) 47 (by rfl) _ _ _ _ (by rfl) (by rfl) H.out ?_)
              all_goals go_wp2_with fail
              all_goals go_roundw
              all_goals first
                | (case measure => simp [intOf]; omega)
                | ((repeat apply Exists.intro); exact ⟨⟨j + 1, by omega, by go_num, HX.out⟩, rfl⟩)
            · rw [List.drop_eq_nil_of_le (by omega)] at hLy
              have HLy := Lib.hid (Lay.done hLy)
              clear hLy
              go_wp2_with fail
              go_meet
              exact HLy.out
        · have hm1 : ((nw : Int) % 256 != 0) = true := by rw [bne_iff_ne]; omega
          have S2 : Hid (StR X1 L [] now 1) := Lib.hid (StR.same2 S1.out (by have := HNW.out; omega))
          clear hm
          go_quiet ((go_at_call 25; first | exact Calls.quiet_of_same (left_same (span_2 _)) | exact quiet_add_same (left_same (span_2 _))))
          go_wp2_with fail
          go_meet
          exact ⟨A1, c1, X1, H1.out.fr0 ((Fr.refl _ _).drewN _), S2.out, F1.out.drewN _, N1.out⟩
      case rest =>
        have HC := Lib.hid hcut
        clear hcut c0 cr zr H1 S1 F1 N1
        go_wp2_with fail
        go_roundw
        case rel => exact ⟨1, by omega, by go_num, HC.out⟩
        case measure => simp [intOf]
end Go.Proofs.Ytgmeebpgncenmaa
