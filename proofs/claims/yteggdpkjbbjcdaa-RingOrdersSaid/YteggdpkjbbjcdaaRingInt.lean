/- The contracts of ring.Ring at int: each method, in whatever world in which the ring stands. -/
import Derived.Test.YteggdpkjbbjcdaaRing
namespace Go.Proofs.Yteggdpkjbbjcdaa
open Go.RowKit

set_option maxHeartbeats 400000 in
theorem cell_int (b g m p : Nat) (i o : Value) (n : Int) (w : World) (hB : Blk w b 81 #[.slice (some ⟨g, 0, none⟩) m m, i, o]) (hm : 0 < m) (h1 : m ≤ 65536) (hp : bits .and .u64 n (m - 1) = p) (hpm : p < m) :
    Calls Try.prog 44 #[.pointer (some ⟨b, 0, none⟩), .int .u64 n] w fun e w' => e = .returned (.pointer (some ⟨g, p, none⟩)) ∧ ∃ k, w' = w.drewN k := by
  have hc : w.cell? ⟨b, 0, none⟩ = some (.slice (some ⟨g, 0, none⟩) m m) := hB.cell 0
  clear hB
  have hx : (p : Int) < m := by omega
  have hx0 : (0 : Int) ≤ p := by omega
  go_enter Try.func44, Try.ntmps44
  go_wp2
  go_quiet (fail)
  go_wp2
  go_ret
  exact ⟨rfl, _, rfl⟩

set_option maxHeartbeats 400000 in
theorem push_int (b g m o : Nat) (xs : List Value) (x : Int) (w : World) (hR : RingIs w b g 81 3 m o xs) (ho : o + xs.length < 4000000000) :
    Calls Try.prog 32 #[.pointer (some ⟨b, 0, none⟩), .int .i64 x] w fun e w' => e = .returned (.bool (decide (xs.length < m))) ∧
      RingIs w' b g 81 3 m o (if xs.length < m then xs ++ [.int .i64 x] else xs) ∧ Fr (fun i => i = b ∨ i = g) w w' := by
  obtain ⟨h20, h2, hne, hle, hmk⟩ := hR.open_
  obtain ⟨hpow, _, _, cs, hB, hG, hsz, hx⟩ := hR
  have c0 := hB.cell 0
  have c1 := hB.cell 1
  have c2 := hB.cell 2
  have f1 := hB.frozen 1
  simp only [List.getElem?_toArray, List.getElem?_cons_zero, List.getElem?_cons_succ] at c0 c1 c2
  have hmod : (o + xs.length) % m < m := Nat.mod_lt _ h20
  have HM := Lib.hid (hmk (o + xs.length) (by omega))
  have HP := Lib.hid hpow
  have HB := Lib.hid hB
  have HG := Lib.hid hG
  have HX := Lib.hid hx
  clear hB hG hx hmk hpow
  by_cases hlt : xs.length < m
  · have HR := Lib.hid (ring_push (v := (.int .i64 x : Value)) hsz hlt HX.out)
    have hps : (o + xs.length) % m < cs.size := by omega
    generalize hn : (o + xs.length) % m = p at *
    generalize hxl : xs.length = n at *
    have hd : decide (n < m) = true := by simp [hlt]
    rw [hd, if_pos hlt]
    have hmn : ((n : Int) == (m : Int)) = false := by simp; omega
    have HL := Lib.hid hxl
    have HS := Lib.hid hsz
    have HE := Lib.hid (show n + 1 ≤ m ∧ p < cs.size ∧ g ≠ b from ⟨by omega, hps, hne⟩)
    clear hd hxl hn hsz
    go_enter Try.func32, Try.ntmps32
    go_wp2_with fail
    refine (load_any _ _ _ c1).mono ?_; rintro e w' ⟨rfl, rfl⟩
    go_wp2_with fail
    go_quiet ((go_at_call 39; exact Calls.quiet_of_same (load_q _ _ _ (by assumption))))
    go_wp2_with fail
    refine (cell_int b g m p _ _ _ _ ((HB.out).drewN _) (by omega) (by omega) HM.out (by assumption)).mono ?_
    rintro e w' ⟨rfl, k2, rfl⟩
    have hcell : (w.drewN (nq + k2)).cell? ⟨g, p, none⟩ = some cs[p] := by
      have := ((HG.out).drewN (nq + k2)).cell p
      rw [this, Array.getElem?_eq_getElem hps]
    have hfz : (w.drewN (nq + k2)).frozen? ⟨g, p, none⟩ = false := ((HG.out).drewN (nq + k2)).frozen p
    go_wp2_with fail
    have hB1 := Blk.far (((HB.out).drewN (nq + k2))) (p := ⟨g, p, none⟩) (Ne.symm HE.out.2.2) (.int .i64 x)
    have hG1 := Blk.set_ ((HG.out).drewN (nq + k2)) p (.int .i64 x)
    refine (store_any _ _ _ _ (hB1.cell 1) (hB1.frozen 1)).mono ?_
    rintro e w' ⟨rfl, rfl⟩
    have hB2 := Lib.hid (hB1.set_ 1 (.int .u64 (↑o + ↑n + 1)))
    have hG2 := Lib.hid (hG1.far (p := ⟨b, 1, none⟩) HE.out.2.2 (.int .u64 (↑o + ↑n + 1)))
    have hF2 := Lib.hid (show Fr (fun i => i = b ∨ i = g) w _ from (((Fr.refl (fun i => i = b ∨ i = g) w).drewN (nq + k2)).setCell (p := ⟨g, p, none⟩) (.inl (.inr rfl)) (.int .i64 x)).setCell (p := ⟨b, 1, none⟩) (.inl (.inl rfl)) (.int .u64 (↑o + ↑n + 1)))
    clear hB1 hG1
    go_wp2_with fail
    go_ret
    refine ⟨rfl, ⟨HP.out, HE.out.2.2, by simp [HL.out]; exact HE.out.1, _, ?_, hG2.out, by simp [HS.out], HR.out⟩, hF2.out⟩
    have := hB2.out
    simpa [HL.out, Int.add_assoc] using this
  · have hfull : xs.length = m := by omega
    rw [hfull] at c1
    have hd : decide (xs.length < m) = false := by simp [hlt]
    rw [hd, if_neg hlt]
    clear hd hlt hfull
    go_enter Try.func32, Try.ntmps32
    go_wp2_with (go_at_call 39; refine (load_any _ _ _ c1).mono ?_; rintro e w' ⟨rfl, rfl⟩)
    go_quiet ((go_at_call 39; exact Calls.quiet_of_same (load_q _ _ _ (by assumption))))
    go_wp2_with fail
    go_ret
    exact ⟨rfl, ⟨HP.out, hne, hle, cs, (HB.out).drewN _, (HG.out).drewN _, hsz, HX.out⟩, (Fr.refl _ _).drewN _⟩

set_option maxHeartbeats 400000 in
theorem pop_none_int (b g m o : Nat) (w : World) (hR : RingIs w b g 81 3 m o []) (_ho : o < 4000000000) :
    Calls Try.prog 33 #[.pointer (some ⟨b, 0, none⟩)] w fun e w' => e = .returned (.tuple #[.int .i64 0, .bool false]) ∧ w = w' := by
  obtain ⟨_, _, _, cs, hB, hG, hsz, hx⟩ := hR
  have c1 := hB.cell 1
  have c2 := hB.cell 2
  simp only [List.getElem?_toArray, List.getElem?_cons_zero, List.getElem?_cons_succ, List.length_nil, Nat.add_zero] at c1 c2
  clear hB hG hsz hx
  go_enter Try.func33, Try.ntmps33
  go_wp2_with fail
  refine (load_any _ _ _ c2).mono ?_; rintro e w' ⟨rfl, rfl⟩
  go_wp2_with fail
  refine (load_any _ _ _ c1).mono ?_; rintro e w' ⟨rfl, rfl⟩
  go_wp2_with fail
  go_ret2
  exact ⟨rfl, rfl⟩

set_option maxHeartbeats 400000 in
theorem pop_some_int (b g m o : Nat) (v : Value) (xs : List Value) (w : World) (hR : RingIs w b g 81 3 m o (v :: xs)) (ho : o + (v :: xs).length < 4000000000) :
    Calls Try.prog 33 #[.pointer (some ⟨b, 0, none⟩)] w fun e w' => e = .returned (.tuple #[v, .bool true]) ∧
      RingIs w' b g 81 3 m (o + 1) xs ∧ Fr (fun i => i = b ∨ i = g) w w' := by
  obtain ⟨h20, h2, hne, hle, hmk⟩ := hR.open_
  obtain ⟨hpow, _, _, cs, hB, hG, hsz, hx⟩ := hR
  simp only [List.length_cons] at ho hle
  have c1 := hB.cell 1
  have c2 := hB.cell 2
  simp only [List.getElem?_toArray, List.getElem?_cons_zero, List.getElem?_cons_succ, List.length_cons] at c1 c2
  have hmod : o % m < m := Nat.mod_lt _ h20
  have hps : o % m < cs.size := by omega
  have HM := Lib.hid (hmk o (by omega))
  have HR := Lib.hid (ring_pop (v := (.int .i64 0 : Value)) hle hx)
  have hv : cs[o % m]? = some v := by have := hx 0 (by simp); simpa using this
  have HC := Lib.hid hv
  have HP := Lib.hid hpow
  have HB := Lib.hid hB
  have HG := Lib.hid hG
  clear hB hG hx hmk hpow hv
  generalize hn : o % m = p at *
  generalize hxl : xs.length = n at *
  have hmn : ((o : Int) == ((o + (n + 1) : Nat) : Int)) = false := by simp; omega
  have HL := Lib.hid hxl
  have HS := Lib.hid hsz
  have HE := Lib.hid (show n ≤ m ∧ p < cs.size ∧ g ≠ b from ⟨by omega, hps, hne⟩)
  clear hxl hn hsz
  go_enter Try.func33, Try.ntmps33
  go_wp2_with fail
  refine (load_any _ _ _ c2).mono ?_; rintro e w' ⟨rfl, rfl⟩
  go_wp2_with fail
  refine (load_any _ _ _ c1).mono ?_; rintro e w' ⟨rfl, rfl⟩
  go_wp2_with fail
  refine (cell_int b g m p _ _ _ _ HB.out (by omega) (by omega) HM.out (by assumption)).mono ?_
  rintro e w' ⟨rfl, k1, rfl⟩
  have hcell1 : (w.drewN k1).cell? ⟨g, p, none⟩ = some v := (((HG.out).drewN k1).cell p).trans HC.out
  go_wp2_with fail
  refine (cell_int b g m p _ _ _ _ ((HB.out).drewN _) (by omega) (by omega) HM.out (by assumption)).mono ?_
  rintro e w' ⟨rfl, k2, rfl⟩
  have hcell : (w.drewN (k1 + k2)).cell? ⟨g, p, none⟩ = some v := (((HG.out).drewN (k1 + k2)).cell p).trans HC.out
  have hfz : (w.drewN (k1 + k2)).frozen? ⟨g, p, none⟩ = false := ((HG.out).drewN (k1 + k2)).frozen p
  go_wp2_with fail
  have hB1 := Blk.far (((HB.out).drewN (k1 + k2))) (p := ⟨g, p, none⟩) (Ne.symm HE.out.2.2) (.int .i64 0)
  have hG1 := Blk.set_ ((HG.out).drewN (k1 + k2)) p (.int .i64 0)
  refine (store_any _ _ _ _ (hB1.cell 2) (hB1.frozen 2)).mono ?_
  rintro e w' ⟨rfl, rfl⟩
  have hB2 := Lib.hid (hB1.set_ 2 (.int .u64 (↑o + 1)))
  have hG2 := Lib.hid (hG1.far (p := ⟨b, 2, none⟩) HE.out.2.2 (.int .u64 (↑o + 1)))
  have hF2 := Lib.hid (show Fr (fun i => i = b ∨ i = g) w _ from (((Fr.refl (fun i => i = b ∨ i = g) w).drewN (k1 + k2)).setCell (p := ⟨g, p, none⟩) (.inl (.inr rfl)) (.int .i64 0)).setCell (p := ⟨b, 2, none⟩) (.inl (.inl rfl)) (.int .u64 (↑o + 1)))
  clear hB1 hG1
  go_wp2_with fail
  go_ret2
  refine ⟨rfl, ⟨HP.out, HE.out.2.2, by rw [HL.out]; exact HE.out.1, _, ?_, hG2.out, by simp [HS.out], ?_⟩, hF2.out⟩
  · have := hB2.out
    have h9 : (o : Int) + (n + 1) = o + 1 + n := by omega
    simpa [HL.out, h9] using this
  · have := HR.out
    rw [HL.out]
    exact this

set_option maxHeartbeats 400000 in
theorem len_int (b g m o : Nat) (xs : List Value) (w : World) (hR : RingIs w b g 81 3 m o xs) (ho : o + xs.length < 4000000000) :
    Calls Try.prog 35 #[.pointer (some ⟨b, 0, none⟩)] w fun e w' => e = .returned (.int .i64 (xs.length : Int)) ∧ ∃ k, w' = w.drewN k := by
  obtain ⟨_, _, hle, cs, hB, hG, hsz, hx⟩ := hR
  have c1 := hB.cell 1
  have c2 := hB.cell 2
  simp only [List.getElem?_toArray, List.getElem?_cons_zero, List.getElem?_cons_succ] at c1 c2
  clear hB hG hsz hx
  generalize xs.length = n at *
  go_enter Try.func35, Try.ntmps35
  go_wp2_with fail
  go_quiet ((go_at_call 39; (first | exact Calls.quiet_of_same (load_q _ _ _ c1) | exact Calls.quiet_of_same (load_q _ _ _ c2))))
  go_wp2_with fail
  go_ret
  have h9 : (o : Int) + n - o = n := by omega
  exact ⟨by simp [h9], _, rfl⟩

set_option maxHeartbeats 400000 in
theorem room_int (b g m o : Nat) (xs : List Value) (w : World) (hR : RingIs w b g 81 3 m o xs) (ho : o + xs.length < 4000000000) :
    Calls Try.prog 34 #[.pointer (some ⟨b, 0, none⟩)] w fun e w' => e = .returned (.int .i64 ((m : Int) - xs.length)) ∧ ∃ k, w' = w.drewN k := by
  obtain ⟨h20, h2, hne, hle, hmk⟩ := hR.open_
  have HR := Lib.hid hR
  obtain ⟨_, _, _, cs, hB, hG, hsz, hx⟩ := hR
  have c0 := hB.cell 0
  simp only [List.getElem?_toArray, List.getElem?_cons_zero] at c0
  clear hB hG hsz hx hmk
  go_enter Try.func34, Try.ntmps34
  go_wp2_with fail
  go_quiet ((go_at_call 35; exact Calls.quiet_of (len_int b g m o xs _ HR.out ho)))
  go_wp2_with fail
  go_ret
  exact ⟨rfl, _, rfl⟩

theorem pushed_int (b g m o : Nat) (xs : List Value) (w : World) (hR : RingIs w b g 81 3 m o xs) :
    Calls Try.prog 37 #[.pointer (some ⟨b, 0, none⟩)] w fun e w' => e = .returned (.int .u64 ((o + xs.length : Nat) : Int)) ∧ w = w' := by
  obtain ⟨_, _, _, cs, hB, hG, hsz, hx⟩ := hR
  have c1 := hB.cell 1
  simp only [List.getElem?_toArray, List.getElem?_cons_zero, List.getElem?_cons_succ] at c1
  clear hB hG hsz hx
  generalize o + xs.length = n at *
  go_enter Try.func37, Try.ntmps37
  go_wp2_with fail
  refine (load_any _ _ _ c1).mono ?_; rintro e w' ⟨rfl, rfl⟩
  go_wp2_with fail
  go_ret
  exact ⟨rfl, rfl⟩

theorem popped_int (b g m o : Nat) (xs : List Value) (w : World) (hR : RingIs w b g 81 3 m o xs) :
    Calls Try.prog 38 #[.pointer (some ⟨b, 0, none⟩)] w fun e w' => e = .returned (.int .u64 (o : Int)) ∧ w = w' := by
  obtain ⟨_, _, _, cs, hB, hG, hsz, hx⟩ := hR
  have c2 := hB.cell 2
  simp only [List.getElem?_toArray, List.getElem?_cons_zero, List.getElem?_cons_succ] at c2
  clear hB hG hsz hx
  go_enter Try.func38, Try.ntmps38
  go_wp2_with fail
  refine (load_any _ _ _ c2).mono ?_; rintro e w' ⟨rfl, rfl⟩
  go_wp2_with fail
  go_ret
  exact ⟨rfl, rfl⟩

set_option maxHeartbeats 400000 in
theorem peek_some_int (b g m o j : Nat) (v : Value) (xs : List Value) (w : World) (hR : RingIs w b g 81 3 m o xs) (ho : o + xs.length < 4000000000) (hj : j < xs.length) (hv : xs[j]? = some v) :
    Calls Try.prog 36 #[.pointer (some ⟨b, 0, none⟩), .int .i64 j] w fun e w' => e = .returned (.tuple #[v, .bool true]) ∧ ∃ k, w' = w.drewN k := by
  obtain ⟨h20, h2, hne, hle, hmk⟩ := hR.open_
  have HR := Lib.hid hR
  obtain ⟨_, _, _, cs, hB, hG, hsz, hx⟩ := hR
  have c2 := hB.cell 2
  simp only [List.getElem?_toArray, List.getElem?_cons_zero, List.getElem?_cons_succ] at c2
  have hmod : (o + j) % m < m := Nat.mod_lt _ h20
  have HM := Lib.hid (hmk (o + j) (by omega))
  have HC := Lib.hid ((hx j hj).trans hv)
  have HB := Lib.hid hB
  have HG := Lib.hid hG
  clear hB hG hx hmk hv hsz
  generalize hn : (o + j) % m = p at *
  clear hn
  go_enter Try.func36, Try.ntmps36
  go_wp2_with fail
  refine (len_int b g m o xs _ HR.out ho).mono ?_; rintro e w' ⟨rfl, k1, rfl⟩
  have c2' : (w.drewN k1).cell? ⟨b, 2, none⟩ = some (.int .u64 o) := c2
  go_wp2_with fail
  refine (load_any _ _ _ c2').mono ?_; rintro e w' ⟨rfl, rfl⟩
  go_wp2_with fail
  refine (cell_int b g m p _ _ _ _ ((HB.out).drewN _) (by omega) (by omega) HM.out (by assumption)).mono ?_
  rintro e w' ⟨rfl, k2, rfl⟩
  have hcell1 : (w.drewN (k1 + k2)).cell? ⟨g, p, none⟩ = some v := (((HG.out).drewN (k1 + k2)).cell p).trans HC.out
  go_wp2_with fail
  go_ret2
  exact ⟨rfl, _, rfl⟩

set_option maxHeartbeats 400000 in
theorem peek_none_int (b g m o : Nat) (i : Int) (xs : List Value) (w : World) (hR : RingIs w b g 81 3 m o xs) (ho : o + xs.length < 4000000000) (hi : i < 0 ∨ (xs.length : Int) ≤ i) :
    Calls Try.prog 36 #[.pointer (some ⟨b, 0, none⟩), .int .i64 i] w fun e w' => e = .returned (.tuple #[.int .i64 0, .bool false]) ∧ ∃ k, w' = w.drewN k := by
  by_cases hi0 : i < 0
  · clear hi
    go_enter Try.func36, Try.ntmps36
    go_wp2_with fail
    go_ret2
    exact ⟨rfl, 0, rfl⟩
  · have hi1 : (xs.length : Int) ≤ i := by omega
    have hi2 : 0 ≤ i := by omega
    clear hi hi0
    go_enter Try.func36, Try.ntmps36
    go_wp2_with fail
    refine (len_int b g m o xs _ hR ho).mono ?_; rintro e w' ⟨rfl, k1, rfl⟩
    go_wp2_with fail
    go_ret2
    exact ⟨rfl, _, rfl⟩

theorem info_int : (Try.prog.info? 3).map (fun i => (i.zero, i.size, i.bytes)) = some (some (.int .i64 0), 1, 8) := by kernel_rfl

set_option maxHeartbeats 400000 in
theorem new_int (k : Nat) (hk : k ≤ 16) (w : World) :
    Calls Try.prog 31 #[.int .i64 k] w fun e w' => ∃ b g, e = .returned (.pointer (some ⟨b, 0, none⟩)) ∧ RingIs w' b g 81 3 (2 ^ k) 0 [] ∧ w.heap.size ≤ b ∧ w.heap.size ≤ g ∧ Below w.heap.size w w' := by
  obtain ⟨i0, hi, hz0, hz1, hz2⟩ := info_parts info_int
  have h1 : 1 ≤ 2 ^ k := Nat.one_le_two_pow
  have h2 : 2 ^ k ≤ 65536 := Nat.pow_le_pow_right (n := 2) (j := 16) (by omega) hk
  have hw := wrap_pow hk
  have HK := Lib.hid (show ∃ j, j ≤ 16 ∧ 2 ^ k = 2 ^ j from ⟨k, hk, rfl⟩)
  generalize hm : 2 ^ k = m at *
  have hmk := fun W => run_make_rowN (P := Try.prog) 49 3 i0 _ Try.underlying49 hi hz0 .i64 .i64 m m (Nat.le_refl _) (by rw [hz2]; omega) (by omega) W
  rw [hz1] at hmk
  simp only [Nat.mul_one] at hmk
  clear hm hz0 hz1 hz2 hi
  go_enter Try.func31, Try.ntmps31
  go_wp2
  go_ret
  exact ⟨w.heap.size + 1, w.heap.size, rfl, ⟨HK.out, by omega, by simp, _, by simpa using Blk.new (w.alloc _) 81 _, (Blk.new w 3 _).alloc _, size_madeCells _ _, fun j hj => by simp at hj⟩, by omega, by omega,
    ((Below.refl _ _).alloc (Nat.le_refl _) _).alloc (by simp) _⟩

set_option maxHeartbeats 400000 in
theorem new_no_int (k : Int) (hk : k < 0 ∨ 16 < k) (w : World) :
    Calls Try.prog 31 #[.int .i64 k] w fun e w' => e = .returned (.pointer none) ∧ w = w' := by
  rcases hk with hk | hk
  · go_enter Try.func31, Try.ntmps31
    go_wp2
    go_ret
    exact ⟨rfl, rfl⟩
  · have h0 : ¬ k < 0 := by omega
    go_enter Try.func31, Try.ntmps31
    go_wp2
    go_ret
    exact ⟨rfl, rfl⟩
end Go.Proofs.Yteggdpkjbbjcdaa
