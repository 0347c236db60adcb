/- The document's own ring (package crosswayref12): what it is in memory, and its contracts. -/
import Derived.Test.YteggdpkjbbjcdaaSteps
import Derived.Test.YteggdpkjbbjcdaaRingStr
namespace Go.Proofs.Yteggdpkjbbjcdaa
open Go.RowKit

/-- Block q is the document's ring: room for sz, 'all' was pushed, 'out' were popped; the row of texts lies from block 'base' on. -/
def RefIs (w : World) (base q sz out : Nat) (all : List ByteArray) : Prop :=
  ∃ (A : Option Addr) (c : Nat), Blk w q 38 #[.int .i64 (sz : Int), .slice A all.length c, .int .i64 (out : Int)] ∧ Own w 9 1 A all.length c (strs all) ∧ (∀ g', A = some ⟨g', 0, none⟩ → base ≤ g') ∧ base ≤ w.heap.size

theorem fr_one (w : World) (q j : Nat) (u : Value) : Fr (fun i => i = q) w (w.setCell ⟨q, j, none⟩ u) := (Fr.refl (fun i => i = q) w).setCell (p := ⟨q, j, none⟩) (.inl rfl) u

theorem RefIs.fr {w w' : World} {base q sz out : Nat} {all : List ByteArray} {S : Nat → Prop} (h : RefIs w base q sz out all) (k : Fr S w w') (hq : ¬ S q) (hb : ∀ i, base ≤ i → ¬ S i) : RefIs w' base q sz out all := by
  obtain ⟨A, c, hB, hO, hA, hz⟩ := h
  exact ⟨A, c, hB.fr k hq, hO.fr k (fun g' hg => hb g' (hA g' hg)), hA, Nat.le_trans hz k.size⟩
theorem RefIs.drewN {w : World} {base q sz out : Nat} {all : List ByteArray} (h : RefIs w base q sz out all) (n : Nat) : RefIs (w.drewN n) base q sz out all := h
theorem RefIs.lt {w : World} {base q sz out : Nat} {all : List ByteArray} (h : RefIs w base q sz out all) : q < w.heap.size := by
  obtain ⟨A, c, hB, _⟩ := h
  exact hB.lt

set_option maxHeartbeats 400000 in
theorem rnew_no (k : Int) (hk : k < 0 ∨ 16 < k) (w : World) : Calls Try.prog 10 #[.int .i64 k] w fun e w' => e = .returned (.pointer none) ∧ w = w' := by
  rcases hk with hk | hk
  · go_enter Try.func10, Try.ntmps10
    go_wp2
    go_ret
    exact ⟨rfl, rfl⟩
  · have h0 : ¬ k < 0 := by omega
    go_enter Try.func10, Try.ntmps10
    go_wp2
    go_ret
    exact ⟨rfl, rfl⟩

set_option maxHeartbeats 400000 in
theorem rnew_any (k : Nat) (hk : k ≤ 16) (w : World) :
    Calls Try.prog 10 #[.int .i64 k] w fun e w' => e = .returned (.pointer (some ⟨w.heap.size, 0, none⟩)) ∧ RefIs w' (w.heap.size + 1) w.heap.size (2 ^ k) 0 [] ∧ Fr (fun _ => False) w w' := by
  have h0 : ¬ (k : Int) < 0 := by omega
  have h16 : (k : Int) ≤ 16 := by omega
  go_enter Try.func10, Try.ntmps10
  go_wp2_with fail
  go_loop [3, 4] (fun s i => ∃ j : Nat, j ≤ k ∧ i = .int .i64 j ∧ s = .int .i64 ((2 ^ j : Nat) : Int)) (fun _ i => k - (intOf i).toNat)
  case atStart => exact ⟨0, Nat.zero_le _, rfl, rfl⟩
  case round =>
    obtain ⟨j, hj, rfl, rfl⟩ := hrel
    by_cases hlt : j < k
    · have h6 : 2 ^ j ≤ 65536 := Nat.pow_le_pow_right (n := 2) (j := 16) (by omega) (by omega)
      have HP := Lib.hid (show 2 ^ (j + 1) = 2 * 2 ^ j from by rw [Nat.pow_succ]; omega)
      generalize 2 ^ j = s at *
      go_wp2_with fail
      go_round
      case rel => exact ⟨j + 1, by omega, by go_num, by rw [HP.out]; go_num⟩
      case measure => simp [intOf]; omega
    · obtain rfl : j = k := by omega
      generalize hs : 2 ^ j = s at *
      have HS := Lib.hid hs
      clear hs
      go_wp2_with fail
      go_ret
      exact ⟨rfl, ⟨none, 0, by rw [HS.out]; exact Blk.new w 38 _, Own.nil_ _ _ _, nofun, by simp⟩, (Fr.refl _ _).alloc _⟩

set_option maxHeartbeats 800000 in
theorem rpush_any (base q sz out : Nat) (all : List ByteArray) (s : ByteArray) (w : World) (hR : RefIs w base q sz out all) (ho : out ≤ all.length) (hl : all.length ≤ 1000) (hq : q < base) (hsz : sz ≤ 65536) :
    Calls Try.prog 13 #[.pointer (some ⟨q, 0, none⟩), .string s] w fun e w' => e = .returned (.bool (decide (all.length - out ≠ sz))) ∧ RefIs w' base q sz out (if all.length - out ≠ sz then all ++ [s] else all) ∧ Fr (fun i => i = q ∨ base ≤ i) w w' := by
  obtain ⟨A, c, hB, hO, hA, hz⟩ := hR
  have c0 := hB.cell 0
  have c1 := hB.cell 1
  have c2 := hB.cell 2
  simp only [List.getElem?_toArray, List.getElem?_cons_zero, List.getElem?_cons_succ] at c0 c1 c2
  obtain ⟨i0, hi, hz0, hz1, hz2⟩ := info_parts info_str
  have HB := Lib.hid hB
  have HO := Lib.hid hO
  have HA := Lib.hid hA
  clear hB hO hA
  by_cases hfull : all.length - out = sz
  · have hd : decide (all.length - out ≠ sz) = false := by simp [hfull]
    rw [hd, if_neg (by simp [hfull])]
    generalize hn : all.length = n at *
    have HN := Lib.hid hn
    have he : ((n : Int) - out == (sz : Int)) = true := by simp; omega
    clear hd hn hfull
    go_enter Try.func13, Try.ntmps13
    go_wp2_with fail
    go_quiet (fail)
    go_wp2_with fail
    go_ret
    exact ⟨rfl, ⟨A, c, by rw [HN.out]; exact HB.out, by rw [HN.out]; exact HO.out, HA.out, hz⟩, (Fr.refl _ _).drewN _⟩
  · have hd : decide (all.length - out ≠ sz) = true := by simp [hfull]
    rw [hd, if_pos hfull]
    generalize hn : all.length = n at *
    have HN := Lib.hid hn
    have he : ((n : Int) - out == (sz : Int)) = false := by simp; omega
    clear hd hn hfull
    go_enter Try.func13, Try.ntmps13
    go_wp2_with fail
    go_quiet (fail)
    have HO2 : Own (w.drewN nq) 9 1 A n c (strs all) := HO.out
    go_wp2_with (at_builtin; refine wpList_append1 (w.drewN nq) rfl _ _ 36 rfl 9 i0 (.string ⟨#[]⟩) 1 16 Try.underlying36 hi hz0 hz1 hz2 rfl (by omega) A n c _ rfl HO2 [.string s] rfl rfl ?_ ?_ ?_ ?_)
    · intro u hu; simp at hu; subst hu; rfl
    · omega
    · omega
    · intro g' c' w5 hown5 hF5 hat5
      rw [strs_add] at hown5
      have HOW5 := Lib.hid hown5
      have hqA : ¬ A = some ⟨q, 0, none⟩ := fun h => by have := HA.out _ h; omega
      have hB5 := ((HB.out).drewN nq).fr hF5 hqA
      have hg5 : base ≤ g' := by
        rcases hat5 with h | h
        · exact HA.out _ h
        · exact Nat.le_trans hz h
      have hc5 := hB5.cell 1
      have hf5 := hB5.frozen 1
      simp only [List.getElem?_toArray, List.getElem?_cons_zero, List.getElem?_cons_succ] at hc5
      have HB5 := Lib.hid hB5
      have HF5 := Lib.hid (show Fr (fun i => i = q ∨ base ≤ i) w w5 from ((Fr.refl _ w).drewN nq).step hF5 (fun i h => .inl (.inr (HA.out _ h))))
      have HZ5 := Lib.hid (show base ≤ w5.heap.size from Nat.le_trans hz hF5.size)
      clear hown5 hB5 hF5 hat5 hqA HO2
      go_wp2_with fail
      go_ret
      refine ⟨rfl, ⟨some ⟨g', 0, none⟩, c', ?_, ?_, fun g'' h => by injection h with h; injection h with h; omega, by simpa [World.setCell] using HZ5.out⟩, HF5.out.setCell (.inl (.inl rfl)) _⟩
      · have := HB5.out.set_ 1 (.slice (some ⟨g', 0, none⟩) (n + 1) c')
        simpa [HN.out] using this
      · have := HOW5.out.fr (fr_one w5 q 1 (.slice (some ⟨g', 0, none⟩) (n + 1) c')) (fun g'' h => by injection h with h; injection h with h; omega)
        simpa [HN.out] using this

set_option maxHeartbeats 400000 in
theorem rpop_none (base q sz : Nat) (all : List ByteArray) (w : World) (hR : RefIs w base q sz all.length all) :
    Calls Try.prog 15 #[.pointer (some ⟨q, 0, none⟩)] w fun e w' => e = .returned (.tuple #[.string ⟨#[]⟩, .bool false]) ∧ ∃ n, w' = w.drewN n := by
  obtain ⟨A, c, hB, hO, hA, hz⟩ := hR
  have c1 := hB.cell 1
  have c2 := hB.cell 2
  simp only [List.getElem?_toArray, List.getElem?_cons_zero, List.getElem?_cons_succ] at c1 c2
  clear hB hO hA
  generalize all.length = n at *
  go_enter Try.func15, Try.ntmps15
  go_wp2_with fail
  go_quiet (fail)
  go_wp2_with fail
  go_ret2
  exact ⟨rfl, _, rfl⟩

set_option maxHeartbeats 400000 in
theorem rpop_some (base q sz out : Nat) (all : List ByteArray) (w : World) (hR : RefIs w base q sz out all) (ho : out < all.length) (hl : all.length ≤ 1000) (hq : q < base) :
    Calls Try.prog 15 #[.pointer (some ⟨q, 0, none⟩)] w fun e w' => e = .returned (.tuple #[.string all[out], .bool true]) ∧ RefIs w' base q sz (out + 1) all ∧ Fr (fun i => i = q) w w' := by
  obtain ⟨A, c, hB, hO, hA, hz⟩ := hR
  have c1 := hB.cell 1
  have c2 := hB.cell 2
  have f2 := hB.frozen 2
  simp only [List.getElem?_toArray, List.getElem?_cons_zero, List.getElem?_cons_succ] at c1 c2
  obtain ⟨g, rfl⟩ := hO.some_ (by omega)
  have hgb := hA g rfl
  have HB := Lib.hid hB
  have HO := Lib.hid hO
  have HA := Lib.hid hA
  have HS := Lib.hid (show (strs all)[out]? = some (.string all[out]) from by simp [strs, ho])
  generalize all[out] = s at *
  clear hB hO hA
  generalize hn : all.length = n at *
  have HN := Lib.hid hn
  clear hn
  have hx0 : (0 : Int) ≤ (out : Int) := by omega
  have hx1 : (out : Int) < n := by omega
  go_enter Try.func15, Try.ntmps15
  go_wp2_with fail
  go_quiet (fail)
  have hB1 := ((HB.out).drewN nq).set_ 2 (.int .i64 ((out : Int) + 1))
  have hF := fr_one (w.drewN nq) q 2 (.int .i64 ((out : Int) + 1))
  have hO1 := (show Own (w.drewN nq) 9 1 (some ⟨g, 0, none⟩) n c (strs all) from HO.out).fr hF (fun g' h => by injection h with h; injection h with h; omega)
  have hc := (hO1.cell out (by omega)).trans HS.out
  have d1 := hB1.cell 1
  have d2 := hB1.cell 2
  simp only [List.setIfInBounds_toArray, List.set_cons_succ, List.set_cons_zero, List.getElem?_toArray, List.getElem?_cons_zero, List.getElem?_cons_succ] at d1 d2
  have HF := Lib.hid (show Fr (fun i => i = q) w _ from ((Fr.refl _ w).drewN nq).trans hF)
  have HR := Lib.hid (show RefIs ((w.drewN nq).setCell ⟨q, 2, none⟩ (.int .i64 ((out : Int) + 1))) base q sz (out + 1) all from ⟨_, c, by rw [HN.out]; simpa using hB1, by rw [HN.out]; exact hO1, HA.out, by simpa [World.setCell] using hz⟩)
  clear hB1 hF hO1
  go_wp2_with fail
  go_quiet (fail)
  go_wp2_with fail
  go_ret2
  exact ⟨rfl, HR.out.drewN _, HF.out.drewN _⟩

set_option maxHeartbeats 400000 in
theorem rpeek_none (base q sz out : Nat) (all : List ByteArray) (i : Int) (w : World) (hR : RefIs w base q sz out all) (ho : out ≤ all.length) (hl : all.length ≤ 1000) (hi : i < 0 ∨ (all.length : Int) - out ≤ i) :
    Calls Try.prog 17 #[.pointer (some ⟨q, 0, none⟩), .int .i64 i] w fun e w' => e = .returned (.tuple #[.string ⟨#[]⟩, .bool false]) ∧ ∃ n, w' = w.drewN n := by
  obtain ⟨A, c, hB, hO, hA, hz⟩ := hR
  have c1 := hB.cell 1
  have c2 := hB.cell 2
  simp only [List.getElem?_toArray, List.getElem?_cons_zero, List.getElem?_cons_succ] at c1 c2
  clear hB hO hA
  generalize all.length = n at *
  by_cases hi0 : i < 0
  · have hd : decide (i < 0) = true := by simp [hi0]
    clear hi
    go_enter Try.func17, Try.ntmps17
    go_wp2_with fail
    go_quiet (fail)
    go_wp2_with fail
    go_ret2
    exact ⟨rfl, _, rfl⟩
  · have hd : decide (i < 0) = false := by simp [hi0]
    have hi1 : (n : Int) - out ≤ i := by omega
    have hi2 : 0 ≤ i := by omega
    clear hi
    go_enter Try.func17, Try.ntmps17
    go_wp2_with fail
    go_quiet (fail)
    go_wp2_with fail
    go_ret2
    exact ⟨rfl, _, rfl⟩

set_option maxHeartbeats 400000 in
theorem rpeek_some (base q sz out j : Nat) (all : List ByteArray) (w : World) (hR : RefIs w base q sz out all) (hl : all.length ≤ 1000) (hj : out + j < all.length) :
    Calls Try.prog 17 #[.pointer (some ⟨q, 0, none⟩), .int .i64 j] w fun e w' => e = .returned (.tuple #[.string all[out + j], .bool true]) ∧ ∃ n, w' = w.drewN n := by
  obtain ⟨A, c, hB, hO, hA, hz⟩ := hR
  have c1 := hB.cell 1
  have c2 := hB.cell 2
  simp only [List.getElem?_toArray, List.getElem?_cons_zero, List.getElem?_cons_succ] at c1 c2
  obtain ⟨g, rfl⟩ := hO.some_ (by omega)
  have hc := (hO.cell (out + j) (by omega)).trans (show (strs all)[out + j]? = some (.string all[out + j]) from by simp [strs, hj])
  clear hB hO hA
  generalize all[out + j] = s at *
  generalize all.length = n at *
  have hd : decide ((j : Int) < 0) = false := by simp
  have hx0 : (0 : Int) ≤ (out : Int) + j := by omega
  have hx1 : (out : Int) + j < n := by omega
  go_enter Try.func17, Try.ntmps17
  go_wp2_with fail
  go_quiet (fail)
  go_wp2_with fail
  go_quiet (fail)
  go_wp2_with fail
  go_ret2
  exact ⟨rfl, _, World.drewN_drewN _ _ _⟩
end Go.Proofs.Yteggdpkjbbjcdaa
