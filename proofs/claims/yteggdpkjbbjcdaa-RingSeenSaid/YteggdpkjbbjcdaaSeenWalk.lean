/- RingSeen, walked. -/
import Derived.Test.YteggdpkjbbjcdaaAwake
import Derived.Test.YteggdpkjbbjcdaaRingStr
import Derived.Test.YteggdpkjbbjcdaaSteps
import Derived.Deep.DeepCutAuto
import Derived.Deep.LoopGhost
import Derived.Deep.CutBlock
namespace Go.Proofs.Yteggdpkjbbjcdaa
open Go.RowKit

def strs (l : List ByteArray) : List Value := l.map Value.string
theorem strs_len (l : List ByteArray) : (strs l).length = l.length := by simp [strs]
theorem strs_add (l : List ByteArray) (s : ByteArray) : strs l ++ [.string s] = strs (l ++ [s]) := by simp [strs]

set_option maxRecDepth 100000 in
set_option maxHeartbeats 3200000 in
theorem seen_any (w : World) (order : Int) (_ : -9223372036854775808 ≤ order) (_ : order ≤ 9223372036854775807) (A : Option Addr) (len cap : Nat) (hrd : Rd Try.prog w 22 [.slice A len cap]) (_ : len * Try.prog.bytesOf 29 ≤ 140737488351232) :
    Calls Try.prog 5 #[.int .i64 order, .slice A len cap] w fun e w' => e = .returned (.bool true) ∧ Below w.heap.size w w' := by
  obtain ⟨k, hk⟩ : ∃ k : Nat, order % 8 = k := ⟨(order % 8).toNat, by omega⟩
  have hk7 : k ≤ 7 := by omega
  have hb := i64_and7 order
  rw [hk] at hb
  clear hk
  obtain ⟨hst, hlen⟩ := steps_in hrd
  have HST := Lib.hid hst
  clear hst hrd
  go_enter Try.func5, Try.ntmps5
  go_wp2_with fail
  refine (awake_any _).mono ?_
  rintro e w1 ⟨rfl, hB1⟩
  have H1 := Lib.hid hB1
  clear hB1
  go_wp2_with fail
  refine (new_str k (by omega) _).mono ?_
  rintro e w2 ⟨b, g, rfl, hR, hb1, hg1, hB2⟩
  have H2 := Lib.hid (H1.out.trans (hB2.mono H1.out.size))
  have hS : ∀ i, i = b ∨ i = g → w.heap.size ≤ i := by have := H1.out.size; rintro i (rfl | rfl) <;> omega
  clear hB2 hb
  have hm7 : 2 ^ k ≤ 128 := Nat.pow_le_pow_right (n := 2) (j := 7) (by omega) (by omega)
  generalize 2 ^ k = m at *
  go_upto_block 0 with fail

  go_cut [7] (fun _ wx => ∃ (o : Nat) (ss : List ByteArray), RingIs wx b g 67 9 m o (strs ss) ∧ o + ss.length ≤ 200 ∧ Below w.heap.size w wx)
  case first =>
    go_wp2_with fail
    go_loopw [7] (fun i wr => ∃ (j o : Nat) (ss : List ByteArray), j ≤ len ∧ j ≤ 200 ∧ i = .int .i64 j ∧ RingIs wr b g 67 9 m o (strs ss) ∧ o + ss.length ≤ j ∧ Below w.heap.size w wr) (fun i _ => 200 - (intOf i).toNat)
    case atStart => exact ⟨0, 0, [], Nat.zero_le _, Nat.zero_le _, rfl, hR, by simp, H2.out⟩
    case round =>
      obtain ⟨j, o, ss, hjl, hj2, rfl, hRn, hos, hBn⟩ := hrel
      have HBn := Lib.hid hBn
      clear hBn
      by_cases hlt : j < len
      · by_cases hlt2 : j < 200
        · obtain ⟨sb, so, rfl, hsb, hi⟩ := (HST.out.below HBn.out) (by omega)
          obtain ⟨x, n, s, ⟨hx1, hx2, hn1, hn2, hs⟩, c0, c1, c2⟩ := hi j hlt
          go_wp2_with fail
          refine (kind_fr x n s _).mono ?_
          rintro e w3 ⟨rfl, hF3⟩
          have c2' := (hF3.cell hsb (fun h => h)).trans c2
          have hR3 := hRn.fr hF3 (fun h => h) (fun h => h)
          have HB3 := Lib.hid (below_fr HBn.out hF3 HBn.out.size (fun _ h => h.elim))
          clear hF3 hRn hi
          by_cases hx : x % 4 < 3
          · go_wp2_with fail
            refine (push_str b g _ _ _ s _ hR3 (by rw [strs_len]; omega)).mono ?_
            rintro e w4 ⟨rfl, hR4, hF4⟩
            have HB4 := Lib.hid (below_fr HB3.out hF4 HB3.out.size hS)
            clear hF4
            go_wp2_with fail
            have HR4 := Lib.hid (show ∃ ss', RingIs w4 b g 67 9 m o (strs ss') ∧ o + ss'.length ≤ j + 1 from by
              split at hR4
              · exact ⟨ss ++ [s], by rw [← strs_add]; exact hR4, by simp; omega⟩
              · exact ⟨ss, hR4, by omega⟩)
            clear hR4
            go_roundw
            case rel =>
              obtain ⟨ss', h1, h2⟩ := HR4.out
              exact ⟨j + 1, o, ss', by omega, by omega, by go_num, h1, h2, HB4.out⟩
            case measure => simp [intOf]; omega
          · go_wp2_with fail
            cases ss with
            | nil =>
              refine (pop_none_str b g _ _ _ hR3 (by simp at hos; omega)).mono ?_
              rintro e w4 ⟨rfl, rfl⟩
              go_wp2_with fail
              go_roundw
              case rel => exact ⟨j + 1, o, [], by omega, by omega, by go_num, hR3, by simp at hos ⊢; omega, HB3.out⟩
              case measure => simp [intOf]; omega
            | cons s1 ss =>
              refine (pop_some_str b g _ _ (.string s1) (strs ss) _ hR3 (by simp [strs_len] at hos ⊢; omega)).mono ?_
              rintro e w4 ⟨rfl, hR4, hF4⟩
              have HB4 := Lib.hid (below_fr HB3.out hF4 HB3.out.size hS)
              clear hF4
              go_wp2_with fail
              go_roundw
              case rel => exact ⟨j + 1, o + 1, ss, by omega, by omega, by go_num, hR4, by simp at hos ⊢; omega, HB4.out⟩
              case measure => simp [intOf]; omega
        · go_wp2_with fail
          go_meet
          exact ⟨o, ss, hRn, by omega, HBn.out⟩
      · go_wp2_with fail
        go_meet
        exact ⟨o, ss, hRn, by omega, HBn.out⟩
  case rest =>
    obtain ⟨o, ss, hRn, hos, hBn⟩ := hcut
    have HBn := Lib.hid hBn
    clear hBn
    obtain ⟨i0, hi, hz0, hz1, hz2⟩ := info_parts info_str
    obtain ⟨hbl, hgl⟩ := hRn.lt
    have hmle := hRn.open_.2.2.2.1
    rw [strs_len] at hmle
    go_wp2_with fail
    go_loopw [8, 9] (fun v i wr => ∃ (j c : Nat) (A' : Option Addr), j ≤ ss.length ∧ i = .int .i64 j ∧ v = .slice A' j c ∧ Own wr 9 1 A' j c (strs (ss.take j)) ∧ (∀ g', A' = some ⟨g', 0, none⟩ → wc.heap.size ≤ g') ∧ wc.heap.size ≤ wr.heap.size ∧
        RingIs wr b g 67 9 m o (strs ss) ∧ Below w.heap.size w wr) (fun _ i _ => ss.length - (intOf i).toNat)
    case atStart => exact ⟨0, 0, none, Nat.zero_le _, rfl, rfl, Own.nil_ _ _ _, nofun, Nat.le_refl _, hRn, HBn.out⟩
    case round =>
      obtain ⟨j, c, A', hj, rfl, rfl, hown, hA', hwc, hR2, hB2⟩ := hrel
      have HB2 := Lib.hid hB2
      have HOW := Lib.hid hown
      have HA := Lib.hid hA'
      have hlen2 := len_str b g _ _ _ wr hR2 (by rw [strs_len]; omega)
      rw [strs_len] at hlen2
      have HL2 := Lib.hid hlen2
      clear hB2 hown hA' hlen2
      by_cases hlt : j < ss.length
      · go_wp2_with fail
        refine HL2.out.mono ?_
        rintro e w3 ⟨rfl, k3, rfl⟩
        go_wp2_with fail
        refine (peek_some_str b g m o j (.string ss[j]) (strs ss) (wr.drewN k3) hR2 (by rw [strs_len]; omega) (by rw [strs_len]; omega) (by simp [strs, hlt])).mono ?_
        rintro e w4 ⟨rfl, k4, rfl⟩
        have HOW2 : Own (wr.drewN (k3 + k4)) 9 1 A' j c (strs (ss.take j)) := HOW.out
        have HSJ := Lib.hid (show strs (ss.take j) ++ [.string ss[j]] = strs (ss.take (j + 1)) from by rw [strs_add, List.take_succ_eq_append_getElem hlt])
        generalize ss[j] = sj at *
        go_wp2_with (at_builtin; refine wpList_append1 (wr.drewN (k3 + k4)) rfl _ _ 36 rfl 9 i0 (.string ⟨#[]⟩) 1 16 Try.underlying36 hi hz0 hz1 hz2 rfl (by omega) A' j c _ rfl HOW2 [.string sj] rfl rfl ?_ ?_ ?_ ?_)
        · intro u hu; simp at hu; subst hu; rfl
        · omega
        · omega
        · intro g' c' w5 hown5 hF5 hat5
          rw [HSJ.out] at hown5
          have HOW5 := Lib.hid hown5
          have hne : ∀ i, A' = some ⟨i, 0, none⟩ → wc.heap.size ≤ i := HA.out
          have hR5 := (show RingIs (wr.drewN (k3 + k4)) b g 67 9 m o (strs ss) from hR2).fr hF5 (fun h => by have := hne _ h; omega) (fun h => by have := hne _ h; omega)
          have hsz : w.heap.size ≤ wc.heap.size := HBn.out.size
          have HB5 := Lib.hid (below_fr (S := fun i => A' = some ⟨i, 0, none⟩) (show Below w.heap.size w (wr.drewN (k3 + k4)) from ⟨HB2.out.os, HB2.out.tape, HB2.out.output, HB2.out.size, HB2.out.block⟩) hF5 HB2.out.size (fun i h => by have := hne _ h; omega))
          have HA5 := Lib.hid (show ∀ g'', (some (⟨g', 0, none⟩ : Addr)) = some ⟨g'', 0, none⟩ → wc.heap.size ≤ g'' from by
            intro g'' h
            injection h with h
            injection h with h
            subst h
            rcases hat5 with h | h
            · exact hne _ h
            · exact Nat.le_trans hwc h)
          have HZ5 := Lib.hid (show wc.heap.size ≤ w5.heap.size from Nat.le_trans hwc hF5.size)
          clear hown5 hF5 hat5 hne
          go_wp2_with fail
          go_roundw
          case rel => exact ⟨j + 1, c', some ⟨g', 0, none⟩, by omega, by go_num, rfl, HOW5.out, HA5.out, HZ5.out, hR5, HB5.out⟩
          case measure => simp [intOf]; omega
      · have HJN := Lib.hid (show j = ss.length from by omega)
        go_wp2_with fail
        refine HL2.out.mono ?_
        rintro e w3 ⟨rfl, k3, rfl⟩
        go_wp2_with fail
        refine (peek_none_str b g m o j (strs ss) (wr.drewN k3) hR2 (by rw [strs_len]; omega) (by rw [strs_len]; omega)).mono ?_
        rintro e w4 ⟨rfl, k4, rfl⟩
        go_wp2_with fail
        refine (peek_none_str b g m o (-1) (strs ss) (wr.drewN (k3 + k4)) hR2 (by rw [strs_len]; omega) (by omega)).mono ?_
        rintro e w5 ⟨rfl, k5, rfl⟩
        have hown5 : Own (wr.drewN (k3 + k4 + k5)) 9 1 A' j c (strs ss) := by
          have := HOW.out
          rw [show ss.take j = ss from by rw [HJN.out, List.take_length]] at this
          exact this
        have hR5 : RingIs (wr.drewN (k3 + k4 + k5)) b g 67 9 m o (strs ss) := hR2
        have hB5 : Below w.heap.size w (wr.drewN (k3 + k4 + k5)) := ⟨HB2.out.os, HB2.out.tape, HB2.out.output, HB2.out.size, HB2.out.block⟩
        go_wp2_with fail
        go_loopw [16] (fun i wr => ∃ q : Nat, q ≤ j ∧ i = .int .i64 q ∧ Own wr 9 1 A' j c (strs ss) ∧ RingIs wr b g 67 9 m (o + q) (strs (ss.drop q)) ∧ Below w.heap.size w wr) (fun i _ => j - (intOf i).toNat)
        case atStart => exact ⟨0, Nat.zero_le _, rfl, hown5, hR5, hB5⟩
        case round =>
          obtain ⟨q, hq, rfl, hown, hR7, hB7⟩ := hrel
          have HB7 := Lib.hid hB7
          have HOW7 := Lib.hid hown
          clear hB7 hown
          by_cases hlt7 : q < j
          · have hql : q < ss.length := by have := HJN.out; omega
            obtain ⟨ag, hag⟩ := HOW7.out.some_ (by omega)
            have hdrop : strs (ss.drop q) = .string ss[q] :: strs (ss.drop (q + 1)) := by rw [List.drop_eq_getElem_cons hql]; rfl
            rw [hdrop] at hR7
            have hcell := HOW7.out
            subst hag
            have hc7 := (hcell.cell q (by omega)).trans (show (strs ss)[q]? = some (.string ss[q]) from by simp [strs, hql])
            have hob : ag ≠ b ∧ ag ≠ g := ⟨hcell.block_ne hR7.2.2.2.choose_spec.1 (by decide), by have := HA.out ag rfl; omega⟩
            have ho7 : o + q + (strs (ss.drop (q + 1))).length + 1 < 4000000000 := by rw [strs_len, List.length_drop]; omega
            generalize ss[q] = sq at *
            clear hdrop
            go_wp2_with fail
            refine (pop_some_str b g m (o + q) (.string sq) (strs (ss.drop (q + 1))) wr hR7 (by simp only [List.length_cons]; omega)).mono ?_
            rintro e w8 ⟨rfl, hR8, hF8⟩
            have hc8 := (hF8.cell (p := ⟨ag, q, none⟩) (hcell.lt rfl) (fun h => by rcases h with h | h <;> simp at h <;> omega)).trans hc7
            have HOW8 := Lib.hid (hcell.fr hF8 (fun g' h => by
              injection h with h
              injection h with h
              subst h
              rintro (h | h) <;> omega))
            have HB8 := Lib.hid (below_fr HB7.out hF8 HB7.out.size hS)
            clear hF8 hcell
            go_wp2_with fail
            go_roundw
            case rel => exact ⟨q + 1, by omega, by go_num, HOW8.out, hR8, HB8.out⟩
            case measure => simp [intOf]; omega
          · have hR9 : RingIs wr b g 67 9 m (o + q) [] := by
              have h1 : ss.drop q = [] := by have := HJN.out; exact List.drop_eq_nil_of_le (by omega)
              rw [h1] at hR7
              exact hR7
            clear hR7
            go_wp2_with fail
            refine (len_str b g _ _ _ wr hR9 (by simp; omega)).mono ?_
            rintro e w8 ⟨rfl, k8, rfl⟩
            go_wp2_with fail
            go_ret
            exact ⟨rfl, ⟨HB7.out.os, HB7.out.tape, HB7.out.output, HB7.out.size, HB7.out.block⟩⟩
end Go.Proofs.Yteggdpkjbbjcdaa
