/- WheelFull answers true. -/
import Derived.Test.YtgmeebpgncenmaaAwake
import Derived.IntWalk
namespace Go.Proofs.Ytgmeebpgncenmaa
open Go.RowKit

def many (n : Nat) : List Tm := (List.range' 0 n).map fun k : Nat => (⟨(k : Int), 0 + (1 + k * 7 % 4095), k + 1⟩ : Tm)
theorem many_len (n : Nat) : (many n).length = n := by simp [many]
theorem many_snoc (k : Nat) : many k ++ [⟨(k : Int), 0 + (1 + k * 7 % 4095), k + 1⟩] = many (k + 1) := by
  unfold many
  rw [List.range'_1_concat]
  simp
theorem many_id {n : Nat} {t : Tm} (ht : t ∈ many n) : 0 ≤ t.id ∧ t.id < (n : Int) ∧ 1 ≤ t.due := by
  obtain ⟨q, hq, rfl⟩ := List.mem_map.1 ht
  have h1 := List.mem_range'_1.1 hq
  refine ⟨by show (0 : Int) ≤ (q : Int); omega, by show (q : Int) < (n : Int); omega, by show 1 ≤ 0 + (1 + q * 7 % 4095); omega⟩
theorem many_at {n k : Nat} (hk : k < n) : ∃ t, t ∈ many n ∧ t.id = (k : Int) ∧ (k = 0 → t.due = 1) := by
  refine ⟨⟨(k : Int), 0 + (1 + k * 7 % 4095), k + 1⟩, List.mem_map.2 ⟨k, List.mem_range'_1.2 (by omega), rfl⟩, rfl, ?_⟩
  rintro rfl
  rfl
theorem noT_len {L : List Tm} (hn : L.Nodup) {t : Tm} (ht : t ∈ L) : (noT t L).length + 1 = L.length := by
  induction L with
  | nil => cases ht
  | cons x r ih =>
    have h := List.nodup_cons.1 hn
    by_cases e : x = t
    · subst e
      have : noT x r = r := noT_all h.1
      simp [noT] at this ⊢
      exact this
    · have ht' : t ∈ r := by
        rcases List.mem_cons.1 ht with h1 | h1
        · exact absurd h1.symm e
        · exact h1
      have := ih h.2 ht'
      simp [noT, e] at this ⊢
      omega
theorem nums_nodup {L : List Tm} (h : L.Pairwise fun x y => x.num < y.num) : L.Nodup := h.imp fun {a b} hab e => by subst e; exact Nat.lt_irrefl _ hab

set_option maxRecDepth 100000 in
set_option maxHeartbeats 3200000 in
theorem full_any (w : World) (id : Int) (hi1 : -9223372036854775808 ≤ id) (hi2 : id ≤ 9223372036854775807) (aft : Int) (hf1 : -9223372036854775808 ≤ aft) (hf2 : aft ≤ 9223372036854775807) (mor : Int) (hp1 : -9223372036854775808 ≤ mor) (hp2 : mor ≤ 9223372036854775807) :
    Calls Try.prog 7 #[.int .i64 id, .int .i64 aft, .int .i64 mor] w fun e w' => e = .returned (.bool true) ∧ Below w.heap.size w w' := by
  go_enter Try.func7, Try.ntmps7
  go_wp2_with fail
  refine (awake_any _).mono ?_
  rintro e w1 ⟨rfl, hB1⟩
  have H1 := Lib.hid hB1
  clear hB1
  go_wp2_with fail
  refine (whl_new _).mono ?_
  rintro e w2 ⟨rfl, h2, f2⟩
  have h2 := h2.mono (G := fun i => w.heap.size ≤ i) fun i _ hi => Nat.le_trans H1.out.size hi
  have B2 := Lib.hid (below_fr H1.out f2 H1.out.size fun _ h => h.elim)
  clear f2
  generalize w1.heap.size + 1 = b at *
  go_upto_if 29 with fail
  go_cut [1] (fun v wx => ∃ f : Nat, f ≤ 9223372036854775807 ∧ v = .int .i64 (f : Int) ∧ wx = w2)
  case first =>
    by_cases hneg : aft < 0
    · go_wp2_with fail
      go_meet
      exact ⟨(-(aft + 1)).toNat, by omega, by rw [Int.toNat_of_nonneg (by omega)], rfl⟩
    · go_wp2_with fail
      go_meet
      exact ⟨aft.toNat, by omega, by rw [Int.toNat_of_nonneg (by omega)], rfl⟩
  case rest =>
    obtain ⟨f, hf, rfl, rfl⟩ := hcut
    go_upto_if 37 with fail
    go_cut [2] (fun v wx => ∃ s : Nat, s ≤ 9223372036854775807 ∧ v = .int .i64 (s : Int) ∧ wx = wc)
    case first =>
      by_cases hneg : mor < 0
      · go_wp2_with fail
        go_meet
        exact ⟨(-(mor + 1)).toNat, by omega, by rw [Int.toNat_of_nonneg (by omega)], rfl⟩
      · go_wp2_with fail
        go_meet
        exact ⟨mor.toNat, by omega, by rw [Int.toNat_of_nonneg (by omega)], rfl⟩
    case rest =>
      obtain ⟨s, hs0, rfl, rfl⟩ := hcut
      go_wp2_with fail
      have hW := Lib.hid h2
      clear h2
      go_loopw [9] (fun i wr => ∃ j : Nat, j ≤ 1000 ∧ i = .int .i64 (j : Int) ∧ Whl wr b (fun i => w.heap.size ≤ i) 0 j (many j) ∧ Below w.heap.size w wr) (fun i _ => 1000 - (intOf i).toNat)
      case atStart => exact ⟨0, Nat.zero_le _, rfl, hW.out, B2.out⟩
      case round =>
        obtain ⟨j, hj, rfl, hw, hB⟩ := hrel
        have HB := Lib.hid hB
        clear hB
        by_cases hjn : j < 1000
        · have HA := Lib.hid (whl_add_ok hw (by omega) (by omega) (j : Int) (1 + j * 7 % 4095) (by omega) (by omega) (by omega) (by omega) (fun t ht => by have := many_id ht; omega) (by rw [many_len]; omega))
          have HE := Lib.hid (show (1 + (j : Int) * 7 % 4095) = ((1 + j * 7 % 4095 : Nat) : Int) by omega)
          clear hw
          go_wp2_with fail
          rw [HE.out]
          refine HA.out.mono ?_
          rintro e w3 ⟨rfl, h3, f3⟩
          rw [many_snoc] at h3
          have HW3 := Lib.hid (h3.mono (G := fun i => w.heap.size ≤ i) fun i _ hi => fn_mono (fun _ h => h) HB.out.size i hi)
          have HB3 := Lib.hid (below_fr HB.out f3 HB.out.size fun _ h => h)
          clear h3 f3
          rw [← HE.out]
          go_wp2_with fail
          go_roundw
          case rel => exact ⟨j + 1, by omega, by go_num, HW3.out, HB3.out⟩
          case measure => simp [intOf]; omega
        · obtain rfl : j = 1000 := by omega
          have HW := Lib.hid hw
          have HX := Lib.hid (whl_next hw (by omega))
          clear hw hW
          go_wp2_with fail
          refine HX.out.mono ?_
          rintro e w4 ⟨v, rfl, hv, f4⟩
          obtain ⟨t1, ht1, hid1, hd1⟩ := many_at (n := 1000) (k := 0) (by omega)
          have hv1 : v = 1 := is_next_eq hv (.inr ⟨⟨t1, ht1, hd1 rfl⟩, by omega, fun t ht => (many_id ht).2.2⟩)
          subst hv1
          have HW4 := Lib.hid (HW.out.fr0 f4)
          have HB4 := Lib.hid (below_fr HB.out f4 HB.out.size fun _ h => h.elim)
          obtain ⟨a, ha⟩ : ∃ a : Nat, a = 1 + f % 4095 := ⟨_, rfl⟩
          have HAE := Lib.hid (show (1 + (f : Int) % 4095) = (a : Int) by omega)
          have ha1 : 1 ≤ a := by omega
          have ha2 : a ≤ 4095 := by omega
          obtain ⟨k, hk⟩ : ∃ k : Nat, k = s % 1000 := ⟨_, rfl⟩
          have HKE := Lib.hid (show ((s : Int) % 1000) = (k : Int) by omega)
          obtain ⟨t, ht, htk, _⟩ := many_at (n := 1000) (k := k) (by omega)
          have HT := Lib.hid ht
          have HTK := Lib.hid htk
          clear hv f4 ht1 hid1 hd1 ha hk ht htk HX HW HB
          by_cases hc1 : id < 0
          · have HA4 := Lib.hid (whl_add_no HW4.out id (a : Int) 161 hi1 hi2 (.inr (.inr ⟨by omega, by omega, fun u hu => by have := many_id hu; omega, many_len _, rfl⟩)))
            have hid0 : id < 0 ∨ 0 ≤ id := by omega
            clear hid0
            go_wp2_with fail
            rw [HAE.out]
            refine HA4.out.mono ?_
            rintro e w5 ⟨rfl, f5⟩
            have HW5 := Lib.hid (HW4.out.fr0 f5)
            have HB5 := Lib.hid (below_fr HB4.out f5 HB4.out.size fun _ h => h.elim)
            clear f5
            go_wp2_with fail
            rw [HKE.out, ← HTK.out]
            refine (whl_cancel_yes HW5.out (by omega) t HT.out).mono ?_
            rintro e w6 ⟨rfl, h6, f6⟩
            have HW6 := Lib.hid (h6.mono (G := fun i => w.heap.size ≤ i) fun i _ hi => fn_mono (fun _ h => h) HB5.out.size i hi)
            have HB6 := Lib.hid (below_fr HB5.out f6 HB5.out.size fun _ h => h)
            have HL6 := Lib.hid (show (noT t (many 1000)).length = 999 by have := noT_len (nums_nodup HW5.out.nums) HT.out; rw [many_len] at this; omega)
            clear f6 h6
            go_wp2_with fail
            refine (whl_add_ok HW6.out (by omega) (by omega) (-7) a (by omega) (by omega) ha1 ha2 (fun u hu => by have := many_id (List.mem_filter.1 hu).1; omega) (by have := HL6.out; omega)).mono ?_
            rintro e w7 ⟨rfl, h7, f7⟩
            have HW7 := Lib.hid (h7.mono (G := fun i => w.heap.size ≤ i) fun i _ hi => fn_mono (fun _ h => h) HB6.out.size i hi)
            have HB7 := Lib.hid (below_fr HB6.out f7 HB6.out.size fun _ h => h)
            have HL7 := Lib.hid (show (noT t (many 1000) ++ [(⟨-7, 0 + a, 1000 + 1⟩ : Tm)]).length = 1000 by rw [List.length_append, HL6.out]; rfl)
            clear f7 h7
            go_wp2_with fail
            refine (whl_add_no HW7.out (-8) (a : Int) 161 (by omega) (by omega) (.inr (.inr ⟨by omega, by omega, fun u hu => by
              rcases List.mem_append.1 hu with h1 | h1
              · have := many_id (List.mem_filter.1 h1).1; omega
              · rw [List.mem_singleton] at h1; subst h1; simp, HL7.out, rfl⟩))).mono ?_
            rintro e w8 ⟨rfl, f8⟩
            have HW8 := Lib.hid (HW7.out.fr0 f8)
            have HB8 := Lib.hid (below_fr HB7.out f8 HB7.out.size fun _ h => h.elim)
            clear f8
            go_wp2_with fail
            refine (whl_left_yes HW8.out (by omega) ⟨-7, 0 + a, 1000 + 1⟩ (by simp)).mono ?_
            rintro e w9 ⟨rfl, f9⟩
            have HW9 := Lib.hid (HW8.out.fr0 f9)
            have HB9 := Lib.hid (below_fr HB8.out f9 HB8.out.size fun _ h => h.elim)
            have HA9 := Lib.hid (show (((0 + a : Nat) : Int) - ((0 : Nat) : Int)) = (a : Int) by omega)
            clear f9
            go_wp2_with fail
            refine (whl_len HW9.out).mono ?_
            rintro e wz ⟨rfl, rfl⟩
            rw [HL7.out]
            go_wp2_with fail
            go_ret
            exact ⟨rfl, HB9.out⟩
          · by_cases hc2 : (1000 : Int) ≤ id
            · have HA4 := Lib.hid (whl_add_no HW4.out id (a : Int) 161 hi1 hi2 (.inr (.inr ⟨by omega, by omega, fun u hu => by have := many_id hu; omega, many_len _, rfl⟩)))
              have hid0 : id < 0 ∨ 0 ≤ id := by omega
              clear hid0
              go_wp2_with fail
              rw [HAE.out]
              refine HA4.out.mono ?_
              rintro e w5 ⟨rfl, f5⟩
              have HW5 := Lib.hid (HW4.out.fr0 f5)
              have HB5 := Lib.hid (below_fr HB4.out f5 HB4.out.size fun _ h => h.elim)
              clear f5
              go_wp2_with fail
              rw [HKE.out, ← HTK.out]
              refine (whl_cancel_yes HW5.out (by omega) t HT.out).mono ?_
              rintro e w6 ⟨rfl, h6, f6⟩
              have HW6 := Lib.hid (h6.mono (G := fun i => w.heap.size ≤ i) fun i _ hi => fn_mono (fun _ h => h) HB5.out.size i hi)
              have HB6 := Lib.hid (below_fr HB5.out f6 HB5.out.size fun _ h => h)
              have HL6 := Lib.hid (show (noT t (many 1000)).length = 999 by have := noT_len (nums_nodup HW5.out.nums) HT.out; rw [many_len] at this; omega)
              clear f6 h6
              go_wp2_with fail
              refine (whl_add_ok HW6.out (by omega) (by omega) (-7) a (by omega) (by omega) ha1 ha2 (fun u hu => by have := many_id (List.mem_filter.1 hu).1; omega) (by have := HL6.out; omega)).mono ?_
              rintro e w7 ⟨rfl, h7, f7⟩
              have HW7 := Lib.hid (h7.mono (G := fun i => w.heap.size ≤ i) fun i _ hi => fn_mono (fun _ h => h) HB6.out.size i hi)
              have HB7 := Lib.hid (below_fr HB6.out f7 HB6.out.size fun _ h => h)
              have HL7 := Lib.hid (show (noT t (many 1000) ++ [(⟨-7, 0 + a, 1000 + 1⟩ : Tm)]).length = 1000 by rw [List.length_append, HL6.out]; rfl)
              clear f7 h7
              go_wp2_with fail
              refine (whl_add_no HW7.out (-8) (a : Int) 161 (by omega) (by omega) (.inr (.inr ⟨by omega, by omega, fun u hu => by
                rcases List.mem_append.1 hu with h1 | h1
                · have := many_id (List.mem_filter.1 h1).1; omega
                · rw [List.mem_singleton] at h1; subst h1; simp, HL7.out, rfl⟩))).mono ?_
              rintro e w8 ⟨rfl, f8⟩
              have HW8 := Lib.hid (HW7.out.fr0 f8)
              have HB8 := Lib.hid (below_fr HB7.out f8 HB7.out.size fun _ h => h.elim)
              clear f8
              go_wp2_with fail
              refine (whl_left_yes HW8.out (by omega) ⟨-7, 0 + a, 1000 + 1⟩ (by simp)).mono ?_
              rintro e w9 ⟨rfl, f9⟩
              have HW9 := Lib.hid (HW8.out.fr0 f9)
              have HB9 := Lib.hid (below_fr HB8.out f9 HB8.out.size fun _ h => h.elim)
              have HA9 := Lib.hid (show (((0 + a : Nat) : Int) - ((0 : Nat) : Int)) = (a : Int) by omega)
              clear f9
              go_wp2_with fail
              refine (whl_len HW9.out).mono ?_
              rintro e wz ⟨rfl, rfl⟩
              rw [HL7.out]
              go_wp2_with fail
              go_ret
              exact ⟨rfl, HB9.out⟩
            · have HA4 := Lib.hid (whl_add_no HW4.out id (a : Int) 160 hi1 hi2 (.inr (.inl ⟨by omega, by omega, by obtain ⟨u, hu, hue, _⟩ := many_at (n := 1000) (k := id.toNat) (by omega); exact ⟨u, hu, by rw [hue]; omega⟩, rfl⟩)))
              have hid0 : id < 0 ∨ 0 ≤ id := by omega
              clear hid0
              go_wp2_with fail
              rw [HAE.out]
              refine HA4.out.mono ?_
              rintro e w5 ⟨rfl, f5⟩
              have HW5 := Lib.hid (HW4.out.fr0 f5)
              have HB5 := Lib.hid (below_fr HB4.out f5 HB4.out.size fun _ h => h.elim)
              clear f5
              go_wp2_with fail
              rw [HKE.out, ← HTK.out]
              refine (whl_cancel_yes HW5.out (by omega) t HT.out).mono ?_
              rintro e w6 ⟨rfl, h6, f6⟩
              have HW6 := Lib.hid (h6.mono (G := fun i => w.heap.size ≤ i) fun i _ hi => fn_mono (fun _ h => h) HB5.out.size i hi)
              have HB6 := Lib.hid (below_fr HB5.out f6 HB5.out.size fun _ h => h)
              have HL6 := Lib.hid (show (noT t (many 1000)).length = 999 by have := noT_len (nums_nodup HW5.out.nums) HT.out; rw [many_len] at this; omega)
              clear f6 h6
              go_wp2_with fail
              refine (whl_add_ok HW6.out (by omega) (by omega) (-7) a (by omega) (by omega) ha1 ha2 (fun u hu => by have := many_id (List.mem_filter.1 hu).1; omega) (by have := HL6.out; omega)).mono ?_
              rintro e w7 ⟨rfl, h7, f7⟩
              have HW7 := Lib.hid (h7.mono (G := fun i => w.heap.size ≤ i) fun i _ hi => fn_mono (fun _ h => h) HB6.out.size i hi)
              have HB7 := Lib.hid (below_fr HB6.out f7 HB6.out.size fun _ h => h)
              have HL7 := Lib.hid (show (noT t (many 1000) ++ [(⟨-7, 0 + a, 1000 + 1⟩ : Tm)]).length = 1000 by rw [List.length_append, HL6.out]; rfl)
              clear f7 h7
              go_wp2_with fail
              refine (whl_add_no HW7.out (-8) (a : Int) 161 (by omega) (by omega) (.inr (.inr ⟨by omega, by omega, fun u hu => by
                rcases List.mem_append.1 hu with h1 | h1
                · have := many_id (List.mem_filter.1 h1).1; omega
                · rw [List.mem_singleton] at h1; subst h1; simp, HL7.out, rfl⟩))).mono ?_
              rintro e w8 ⟨rfl, f8⟩
              have HW8 := Lib.hid (HW7.out.fr0 f8)
              have HB8 := Lib.hid (below_fr HB7.out f8 HB7.out.size fun _ h => h.elim)
              clear f8
              go_wp2_with fail
              refine (whl_left_yes HW8.out (by omega) ⟨-7, 0 + a, 1000 + 1⟩ (by simp)).mono ?_
              rintro e w9 ⟨rfl, f9⟩
              have HW9 := Lib.hid (HW8.out.fr0 f9)
              have HB9 := Lib.hid (below_fr HB8.out f9 HB8.out.size fun _ h => h.elim)
              have HA9 := Lib.hid (show (((0 + a : Nat) : Int) - ((0 : Nat) : Int)) = (a : Int) by omega)
              clear f9
              go_wp2_with fail
              refine (whl_len HW9.out).mono ?_
              rintro e wz ⟨rfl, rfl⟩
              rw [HL7.out]
              go_wp2_with fail
              go_ret
              exact ⟨rfl, HB9.out⟩
end Go.Proofs.Ytgmeebpgncenmaa
