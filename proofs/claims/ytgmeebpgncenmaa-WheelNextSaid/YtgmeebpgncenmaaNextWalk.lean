/- WheelNext answers true. -/
import Derived.Test.YtgmeebpgncenmaaAwake
import Derived.Test.YtgmeebpgncenmaaStp
import Derived.IntWalk
namespace Go.Proofs.Ytgmeebpgncenmaa
open Go.RowKit

/-- A wheel behind j steps of the first loop. -/
def NSt (w : World) (b j : Nat) (wx : World) : Prop :=
  ∃ (now added : Nat) (L : List Tm), now ≤ 40 * j ∧ added ≤ j ∧ L.length ≤ j ∧ (∀ t, t ∈ L → t.due ≤ now + 4095) ∧ Whl wx b (fun i => w.heap.size ≤ i) now added L ∧ Below w.heap.size w wx
theorem AddRes.len {now added added' : Nat} {L L' : List Tm} {id a r : Int} (h : AddRes now added L id a r added' L') : L'.length ≤ L.length + 1 ∧ added' ≤ added + 1 ∧ ((∀ t, t ∈ L → t.due ≤ now + 4095) → ∀ t, t ∈ L' → t.due ≤ now + 4095) := by
  rcases h with ⟨_, rfl, rfl⟩ | ⟨_, h1, h2, _, _, rfl, rfl⟩
  · exact ⟨by omega, by omega, fun h => h⟩
  · refine ⟨by simp, by omega, fun hd t ht => ?_⟩
    rcases List.mem_append.1 ht with h3 | h3
    · exact hd t h3
    · rw [List.mem_singleton] at h3
      subst h3
      show now + a.toNat ≤ now + 4095
      omega
theorem CanRes.len {L L' : List Tm} {id : Int} {r : Bool} (h : CanRes L id r L') : L'.length ≤ L.length ∧ ∀ t, t ∈ L' → t ∈ L := by
  rcases h with ⟨_, rfl, _⟩ | ⟨_, t, _, _, rfl⟩
  · exact ⟨Nat.le_refl _, fun _ h => h⟩
  · exact ⟨noT_le _ _, fun s hs => (List.mem_filter.1 hs).1⟩
theorem left_mem {L : List Tm} {n : Nat} {t : Tm} (h : t ∈ leftL L n) : t ∈ L ∧ t.due ≠ n := by simpa [leftL] using h
theorem left_len (L : List Tm) (n : Nat) : (leftL L n).length ≤ L.length := List.length_filter_le _ _
theorem NSt.add {w wx w' : World} {b j now added added' : Nat} {L L' : List Tm} {id a r : Int} (hn : now ≤ 40 * j) (ha : added ≤ j) (hl : L.length ≤ j) (hd : ∀ t, t ∈ L → t.due ≤ now + 4095) (hB : Below w.heap.size w wx)
    (hr : AddRes now added L id a r added' L') (h : Whl w' b (Fn (fun i => w.heap.size ≤ i) wx) now added' L') (f : Fr (fun i => w.heap.size ≤ i) wx w') : NSt w b (j + 1) w' := by
  obtain ⟨h1, h2, h3⟩ := hr.len
  exact ⟨now, added', L', by omega, by omega, by omega, h3 hd, h.mono fun i _ hi => fn_mono (fun _ h => h) hB.size i hi, below_fr hB f hB.size fun _ h => h⟩
theorem NSt.can {w wx w' : World} {b j now added : Nat} {L L' : List Tm} {id : Int} {r : Bool} (hn : now ≤ 40 * j) (ha : added ≤ j) (hl : L.length ≤ j) (hd : ∀ t, t ∈ L → t.due ≤ now + 4095) (hB : Below w.heap.size w wx)
    (hr : CanRes L id r L') (h : Whl w' b (Fn (fun i => w.heap.size ≤ i) wx) now added L') (f : Fr (fun i => w.heap.size ≤ i) wx w') : NSt w b (j + 1) w' := by
  obtain ⟨h1, h2⟩ := hr.len
  exact ⟨now, added, L', by omega, by omega, by omega, fun t ht => hd t (h2 t ht), h.mono fun i _ hi => fn_mono (fun _ h => h) hB.size i hi, below_fr hB f hB.size fun _ h => h⟩

set_option maxRecDepth 100000 in
set_option maxHeartbeats 3200000 in
theorem nextw_any (w : World) (A : Option Addr) (len cap : Nat) (hrd : Rd Try.prog w 32 [.slice A len cap]) (_ : len * Try.prog.bytesOf 36 ≤ 140737488351232) :
    Calls Try.prog 6 #[.slice A len cap] w fun e w' => e = .returned (.bool true) ∧ Below w.heap.size w w' := by
  obtain ⟨hst, hlen⟩ := steps_in hrd
  have HST := Lib.hid hst
  clear hst hrd
  go_enter Try.func6, Try.ntmps6
  go_wp2_with fail
  refine (awake_any _).mono ?_
  rintro e w1 ⟨rfl, hB1⟩
  have H1 := Lib.hid hB1
  clear hB1
  go_wp2_with fail
  refine (whl_new _).mono ?_
  rintro e w2 ⟨rfl, h2, f2⟩
  have h2 := h2.mono (G := fun i => w.heap.size ≤ i) fun i _ hi => Nat.le_trans H1.out.size hi
  have B2 := Lib.hid (below_fr H1.out f2 H1.out.size fun _ h => h.elim)
  clear f2
  generalize w1.heap.size + 1 = b at *
  have HN := Lib.hid (show NSt w b 0 w2 from ⟨0, 0, [], by omega, by omega, by simp, nofun, h2, B2.out⟩)
  clear h2
  go_upto_block 0 with fail
  go_cut [5, 6] (fun _ _ wx => ∃ j, j ≤ 60 ∧ NSt w b j wx)
  case first =>
    go_wp2_with fail
    go_loopg [5] 60 (fun gk v5 wr => ∃ j : Nat, j + gk = 60 ∧ j ≤ len ∧ v5 = .int .i64 (j : Int) ∧ NSt w b j wr)
    case atStart => exact ⟨0, by omega, Nat.zero_le _, rfl, HN.out⟩
    case round =>
      obtain ⟨j, hj, hjl, rfl, hN⟩ := hrel
      have HJ := Lib.hid hj
      have hj2 : j ≤ 60 := by omega
      have HN2 := Lib.hid hN
      clear hj hN HN
      by_cases hlt : j < len
      · by_cases hlt2 : j < 60
        · obtain ⟨now, added, L, hnow, hadd, hL, hd, hw, hB⟩ := HN2.out
          obtain ⟨sb, so, rfl, hsw, hi⟩ := HST.out (by omega)
          obtain ⟨x, n, s, ⟨hx, hn, hs⟩, e0, e1, e2⟩ := hi j hlt
          have c0 := (hB.cell (p := ⟨sb, so + j * 3, none⟩) hsw).trans e0
          have c1 := (hB.cell (p := ⟨sb, so + j * 3 + 1, none⟩) hsw).trans e1
          have c2 := (hB.cell (p := ⟨sb, so + j * 3 + 2, none⟩) hsw).trans e2
          have E0 := Lib.hid e0
          have E1 := Lib.hid e1
          have E2 := Lib.hid e2
          clear e0 e1 e2
          have hand := i64_and3 x
          have HD := Lib.hid hd
          have HW := Lib.hid hw
          have HB := Lib.hid hB
          have HXI := Lib.hid hx
          have HNI := Lib.hid hn
          have HSI := Lib.hid hs
          clear hi hd hw hB hx hn hs
          have hb60 : decide ((j : Int) < 60) = true := decide_eq_true (by omega)
          go_upto_block 1 with fail
          go_cut [6] (fun _ wx => NSt w b (j + 1) wx)
          case first =>
            by_cases hx0 : x % 4 = 0
            · have hxa : (x % 4 == 0) = true := by simp [hx0]
              clear hx0
              go_wp2_with fail
              go_region_with (first
                | (go_at_call 11; refine (whl_add (HW.out.fr0 (by repeat first | exact Fr.refl _ _ | refine Fr.drew ?_ | refine Fr.drewN ?_ _)) (by omega) (by omega) n s HNI.out).mono ?_; rintro e w5 ⟨r5, a5, L5, rfl, hr5, hw5, hf5⟩))
              all_goals
                go_wp2_with fail
                go_meet
                exact NSt.add hnow hadd hL HD.out HB.out hr5 (hw5.mono fun _ _ h => h) (Fr.trans (by repeat first | exact Fr.refl _ _ | refine Fr.drew ?_ | refine Fr.drewN ?_ _) hf5)
            · have hxa : (x % 4 == 0) = false := by simp [hx0]
              by_cases hx1 : x % 4 = 1
              · have hxb : (x % 4 == 1) = true := by simp [hx1]
                clear hx0 hx1
                go_wp2_with fail
                go_region_with (first
                  | (go_at_call 11; refine (whl_add (HW.out.fr0 (by repeat first | exact Fr.refl _ _ | refine Fr.drew ?_ | refine Fr.drewN ?_ _)) (by omega) (by omega) n s HNI.out).mono ?_; rintro e w5 ⟨r5, a5, L5, rfl, hr5, hw5, hf5⟩))
                all_goals
                  go_wp2_with fail
                  go_meet
                  exact NSt.add hnow hadd hL HD.out HB.out hr5 (hw5.mono fun _ _ h => h) (Fr.trans (by repeat first | exact Fr.refl _ _ | refine Fr.drew ?_ | refine Fr.drewN ?_ _) hf5)
              · have hxb : (x % 4 == 1) = false := by simp [hx1]
                by_cases hx2 : x % 4 = 2
                · have hxc : (x % 4 == 2) = true := by simp [hx2]
                  clear hx0 hx1 hx2
                  go_wp2_with fail
                  refine (whl_cancel HW.out (by omega) n HNI.out).mono ?_
                  rintro e w5 ⟨r5, L5, rfl, hr5, hw5, hf5⟩
                  go_wp2_with fail
                  go_meet
                  exact NSt.can hnow hadd hL HD.out HB.out hr5 hw5 hf5
                · have hxc : (x % 4 == 2) = false := by simp [hx2]
                  clear hx0 hx1 hx2
                  go_wp2_with fail
                  go_loopw [6] (fun v6 wr => ∃ (q : Nat) (L : List Tm), q ≤ tks s % 40 ∧ v6 = .int .i64 (q : Int) ∧ L.length ≤ j ∧ (∀ t, t ∈ L → t.due ≤ now + q + 4095) ∧ Whl wr b (fun i => w.heap.size ≤ i) (now + q) added L ∧ Below w.heap.size w wr) (fun v _ => 40 - (intOf v).toNat)
                  case atStart => exact ⟨0, L, Nat.zero_le _, rfl, hL, HD.out, HW.out, HB.out⟩
                  case round =>
                    obtain ⟨q, L2, hq, rfl, hL2, hd2, hw2, hB2⟩ := hrel
                    have d0 := (hB2.cell (p := ⟨sb, so + j * 3, none⟩) hsw).trans E0.out
                    have d1 := (hB2.cell (p := ⟨sb, so + j * 3 + 1, none⟩) hsw).trans E1.out
                    have d2 := (hB2.cell (p := ⟨sb, so + j * 3 + 2, none⟩) hsw).trans E2.out
                    have hal : Fr (fun _ => False) wr (wr.alloc (.cells #[.int .i64 x, .int .i64 n, .int .i64 s] 36)) := (Fr.refl _ _).alloc _
                    have HD2 := Lib.hid hd2
                    have HW2 := Lib.hid (hw2.fr0 hal)
                    have HB2 := Lib.hid (below_fr hB2 hal hB2.size fun _ h => h.elim)
                    clear hd2 hw2 hB2 hal c0 c1 c2
                    go_wp2_with fail
                    refine (ticks_any x n s HSI.out _).mono ?_
                    rintro e w5 ⟨rfl, rfl⟩
                    clear d0 d1 d2
                    generalize wr.alloc (.cells #[.int .i64 x, .int .i64 n, .int .i64 s] 36) = W at *
                    by_cases hqt : q < tks s % 40
                    · have hqi : (q : Int) < (tks s : Int) % 40 := by omega
                      go_wp2_with fail
                      refine (whl_tick HW2.out (by omega)).mono ?_
                      rintro e w6 ⟨R, rc, rfl, o6, h6, f6, n6⟩
                      have HW6 := Lib.hid (h6.mono (G := fun i => w.heap.size ≤ i) fun i _ hi => fn_mono (fun _ h => h) HB2.out.size i hi.1)
                      have HB6 := Lib.hid (below_fr HB2.out f6 HB2.out.size fun _ h => h)
                      clear o6 h6 f6 n6
                      go_wp2_with fail
                      have HDA := Lib.hid (show ∀ t, t ∈ leftL L2 (now + q + 1) → t.due ≤ now + (q + 1) + 4095 from fun t ht => by have := HD2.out t (left_mem ht).1; omega)
                      have HLA := Lib.hid (Nat.le_trans (left_len L2 (now + q + 1)) hL2)
                      go_roundw
                      case rel => first
                        | exact ⟨q + 1, leftL L2 (now + q + 1), by omega, by go_num, HLA.out, HDA.out, HW6.out, HB6.out⟩
                        | ((repeat apply Exists.intro); exact ⟨⟨q + 1, leftL L2 (now + q + 1), by omega, by go_num, HLA.out, HDA.out, HW6.out, HB6.out⟩, rfl⟩)
                      case measure => simp [intOf]; omega
                    · have hqi : ¬ (q : Int) < (tks s : Int) % 40 := by omega
                      go_wp2_with fail
                      go_meet
                      exact ⟨now + q, added, L2, by omega, by omega, by omega, HD2.out, HW2.out, HB2.out⟩
          case rest =>
            have HC := Lib.hid hcut
            clear hcut
            go_wp2_with fail
            go_roundg (gk - 1)
            case measure => have := HJ.out; omega
            case rel => exact ⟨j + 1, by have := HJ.out; omega, by omega, by go_num, HC.out⟩
        · go_wp2_with fail
          go_meet
          exact ⟨j, hj2, HN2.out⟩
      · go_wp2_with fail
        go_meet
        exact ⟨j, hj2, HN2.out⟩
  case rest =>
    obtain ⟨j, hj, now0, added, L0, hnow0, hadd, hL0, hd0, hw0, hB0⟩ := hcut
    have HD0 := Lib.hid hd0
    have HW0 := Lib.hid hw0
    have HB0 := Lib.hid hB0
    clear hd0 hw0 hB0 HN
    go_wp2_with fail
    go_loopw [7] (fun v7 wr => ∃ (r now : Nat) (L : List Tm), v7 = .int .i64 (r : Int) ∧ r + L.length ≤ 60 ∧ now ≤ 2400 + 4096 * r ∧ (∀ t, t ∈ L → t.due ≤ now + 4095) ∧ Whl wr b (fun i => w.heap.size ≤ i) now added L ∧ Below w.heap.size w wr) (fun v _ => 70 - (intOf v).toNat)
    case atStart => exact ⟨0, now0, L0, rfl, by omega, by omega, HD0.out, HW0.out, HB0.out⟩
    case round =>
      obtain ⟨r, now, L, rfl, hr, hnow, hd, hw, hB⟩ := hrel
      have HD := Lib.hid hd
      have HW := Lib.hid hw
      have HB := Lib.hid hB
      clear hd hw hB HD0 HW0 HB0
      go_wp2_with fail
      refine (whl_next HW.out (by omega)).mono ?_
      rintro e w4 ⟨v, rfl, hv, f4⟩
      have HV := Lib.hid hv
      have HW4 := Lib.hid (HW.out.fr0 f4)
      have HB4 := Lib.hid (below_fr HB.out f4 HB.out.size fun _ h => h.elim)
      clear hv f4
      by_cases hv0 : v = 0
      · have hL : L = [] := by
          rcases HV.out with ⟨_, h⟩ | ⟨_, h, _⟩
          · exact h
          · omega
        subst hL
        subst hv0
        go_wp2_with fail
        refine (whl_len HW4.out).mono ?_
        rintro e w5 ⟨rfl, rfl⟩
        go_wp2_with fail
        go_loopw [9] (fun v9 wr => wr = w4 ∧ v9 = .int .i64 1) (fun v _ => 0)
        case atStart => exact ⟨rfl, rfl⟩
        case round =>
          obtain ⟨rfl, rfl⟩ := hrel
          go_wp2_with fail
          refine (whl_tick HW4.out (by omega)).mono ?_
          rintro e w6 ⟨R, rc, rfl, o6, h6, f6, n6⟩
          have HB6 := Lib.hid (below_fr HB4.out f6 HB4.out.size fun _ h => h)
          have e6 : dueL [] (now + 1) = [] := rfl
          rw [e6]
          clear o6 h6 f6 n6
          go_wp2_with fail
          go_ret
          exact ⟨rfl, HB6.out⟩
      · have hvz : ((v : Int) == 0) = false := by simp; omega
        obtain ⟨⟨t, ht, htd⟩, hvp, hvall⟩ := HV.out.resolve_left (fun h => hv0 h.1)
        have hvb : v ≤ 4095 := by have := HD.out t ht; omega
        have hLp : 0 < L.length := List.length_pos_of_mem ht
        have hLz : ((L.length : Int) == 0) = false := by simp; intro h; rw [h] at hLp; simp at hLp
        have HT := Lib.hid ht
        have HTD := Lib.hid htd
        have HVA := Lib.hid hvall
        clear ht htd hvall hv0
        go_wp2_with fail
        refine (whl_len HW4.out).mono ?_
        rintro e w5 ⟨rfl, rfl⟩
        go_wp2_with fail
        go_loopw [9] (fun v9 wr => ∃ k : Nat, 1 ≤ k ∧ k ≤ v ∧ v9 = .int .i64 (k : Int) ∧ Whl wr b (fun i => w.heap.size ≤ i) (now + (k - 1)) added L ∧ Below w.heap.size w wr) (fun v _ => 5000 - (intOf v).toNat)
        case atStart => exact ⟨1, by omega, by omega, rfl, HW4.out, HB4.out⟩
        case round =>
          obtain ⟨k, hk1, hkv, rfl, hw, hB⟩ := hrel
          have HW5 := Lib.hid hw
          have HB5 := Lib.hid hB
          clear hw hB
          by_cases hkv2 : k < v
          · have e1 : dueL L (now + (k - 1) + 1) = [] := List.filter_eq_nil_iff.2 fun u hu => by have := HVA.out u hu; simp; omega
            have e2 : leftL L (now + (k - 1) + 1) = L := List.filter_eq_self.2 fun u hu => by have := HVA.out u hu; simp; omega
            have E1 := Lib.hid e1
            have E2 := Lib.hid e2
            clear e1 e2
            go_wp2_with fail
            refine (whl_tick HW5.out (by omega)).mono ?_
            rintro e w6 ⟨R, rc, rfl, o6, h6, f6, n6⟩
            rw [E2.out, show now + (k - 1) + 1 = now + (k + 1 - 1) by omega] at h6
            rw [E1.out]
            have HW6 := Lib.hid (h6.mono (G := fun i => w.heap.size ≤ i) fun i _ hi => fn_mono (fun _ h => h) HB5.out.size i hi.1)
            have HB6 := Lib.hid (below_fr HB5.out f6 HB5.out.size fun _ h => h)
            clear o6 h6 f6 n6
            go_wp2_with fail
            go_roundw
            case rel => exact ⟨k + 1, by omega, by omega, by go_num, HW6.out, HB6.out⟩
            case measure => simp [intOf]; omega
          · obtain rfl : k = v := by omega
            go_wp2_with fail
            refine (whl_len HW5.out).mono ?_
            rintro e w6 ⟨rfl, rfl⟩
            go_wp2_with fail
            refine (whl_tick HW5.out (by omega)).mono ?_
            rintro e w7 ⟨R, rc, rfl, o6, h6, f6, n6⟩
            have hne := part_len L (now + (k - 1) + 1)
            have hdp : 0 < (dueL L (now + (k - 1) + 1)).length := List.length_pos_of_mem (a := t) (by
              have := HT.out
              have := HTD.out
              simp [dueL]
              exact ⟨by assumption, by omega⟩)
            have HDA := Lib.hid (show ∀ u, u ∈ leftL L (now + (k - 1) + 1) → u.due ≤ now + (k - 1) + 1 + 4095 from fun u hu => by have := HD.out u (left_mem hu).1; omega)
            have HW6 := Lib.hid (h6.mono (G := fun i => w.heap.size ≤ i) fun i _ hi => fn_mono (fun _ h => h) HB5.out.size i hi.1)
            have HB6 := Lib.hid (below_fr HB5.out f6 HB5.out.size fun _ h => h)
            clear o6 h6 f6 n6
            generalize dueL L (now + (k - 1) + 1) = D at *
            generalize leftL L (now + (k - 1) + 1) = L' at *
            have hdz : ((D.length : Int) == 0) = false := by simp; intro h; rw [h] at hdp; simp at hdp
            have hlz : ((L'.length : Int) != (L.length : Int) - (D.length : Int)) = false := by rw [bne_eq_false_iff_eq]; omega
            have hlb : L.length ≤ 60 := by omega
            have hdl : D.length ≤ L.length := by omega
            have hr2 : r + 1 + L'.length ≤ 60 := by omega
            clear hne
            go_wp2_with fail
            refine (whl_len HW6.out).mono ?_
            rintro e w8 ⟨rfl, rfl⟩
            go_wp2_with fail
            refine ⟨⟨r + 1, now + (k - 1) + 1, L', by go_num, hr2, by omega, HDA.out, HW6.out, HB6.out⟩, ?_⟩
            simp [intOf]; omega
end Go.Proofs.Ytgmeebpgncenmaa
