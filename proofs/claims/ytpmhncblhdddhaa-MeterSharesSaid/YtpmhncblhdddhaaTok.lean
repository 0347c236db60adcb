/- The contracts of the tokens, the program's and the document's; of a share. -/
import Derived.Test.YtpmhncblhdddhaaMeter
import Derived.BigRegion
namespace Go.Proofs.Ytpmhncblhdddhaa
open Go.RowKit

/-- Block b is a bucket: rate, burst, level (type 49 the program's, 35 the document's). -/
def Tok (w : World) (b T r u l : Nat) : Prop := Blk w b T #[.int .i64 (r : Int), .int .i64 (u : Int), .int .i64 (l : Int)]

theorem Tok.fr {w w' : World} {b T r u l : Nat} {S : Nat → Prop} (h : Tok w b T r u l) (k : Fr S w w') (hb : ¬ S b) : Tok w' b T r u l := Blk.fr h k hb

set_option maxHeartbeats 800000 in
theorem bucket_ok (r u : Nat) (w : World) (hr : r ≤ 1048576) (hu : u ≤ 1048576) :
    Calls Try.prog 10 #[.int .i64 r, .int .i64 u] w fun e w' => e = .returned (.tuple #[.pointer (some ⟨w.heap.size, 0, none⟩), .int .i64 0]) ∧ w.alloc (.cells #[.int .i64 (r : Int), .int .i64 (u : Int), .int .i64 (u : Int)] 49) = w' := by
  have h0 : ¬ (r : Int) < 0 := by omega
  have h1 : (r : Int) ≤ 1048576 := by omega
  have h2 : ¬ (u : Int) < 0 := by omega
  have h3 : (u : Int) ≤ 1048576 := by omega
  go_enter Try.func10, Try.ntmps10
  go_wp2
  go_ret2
  exact ⟨rfl, rfl⟩

set_option maxHeartbeats 800000 in
theorem bucket_no (r u : Int) (w : World) (h : r < 0 ∨ 1048576 < r ∨ u < 0 ∨ 1048576 < u) :
    Calls Try.prog 10 #[.int .i64 r, .int .i64 u] w fun e w' => e = .returned (.tuple #[.pointer none, .int .i64 1]) ∧ w = w' := by
  by_cases h0 : r < 0
  · clear h
    go_enter Try.func10, Try.ntmps10
    go_wp2
    go_ret2
    exact ⟨rfl, rfl⟩
  · by_cases h1 : 1048576 < r
    · clear h
      go_enter Try.func10, Try.ntmps10
      go_wp2
      go_ret2
      exact ⟨rfl, rfl⟩
    · by_cases h2 : u < 0
      · clear h
        go_enter Try.func10, Try.ntmps10
        go_wp2
        go_ret2
        exact ⟨rfl, rfl⟩
      · have h3 : 1048576 < u := by omega
        clear h
        go_enter Try.func10, Try.ntmps10
        go_wp2
        go_ret2
        exact ⟨rfl, rfl⟩

set_option maxHeartbeats 800000 in
theorem level_any (b r u l : Nat) (w : World) (hB : Tok w b 49 r u l) : Calls Try.prog 15 #[.pointer (some ⟨b, 0, none⟩)] w fun e w' => e = .returned (.int .i64 (l : Int)) ∧ w = w' := by
  have c2 := Blk.cell hB 2
  simp only [List.getElem?_toArray, List.getElem?_cons_zero, List.getElem?_cons_succ] at c2
  clear hB
  go_enter Try.func15, Try.ntmps15
  go_wp2
  go_ret
  exact ⟨rfl, rfl⟩

set_option maxHeartbeats 800000 in
theorem take_yes (b r u l n : Nat) (w : World) (hB : Tok w b 49 r u l) (hn : n ≤ l) (hl : l ≤ 1048576) : Calls Try.prog 13 #[.pointer (some ⟨b, 0, none⟩), .int .i64 n] w fun e w' => e = .returned (.bool true) ∧ Tok w' b 49 r u (l - n) ∧ Fr (fun i => i = b) w w' := by
  have c2 := Blk.cell hB 2
  have f2 := Blk.frozen hB 2
  simp only [List.getElem?_toArray, List.getElem?_cons_zero, List.getElem?_cons_succ] at c2
  have h0 : ¬ (n : Int) < 0 := by omega
  have h1 : (n : Int) ≤ l := by omega
  have h2 : (l : Int) ≤ 1048576 := by omega
  have HB := Lib.hid hB
  clear hB
  go_enter Try.func13, Try.ntmps13
  go_wp2
  go_ret
  refine ⟨rfl, ?_, (Fr.refl (fun i => i = b) w).setCell (p := ⟨b, 2, none⟩) (.inl rfl) _⟩
  have := Blk.set_ HB.out 2 (.int .i64 ((l : Int) - n))
  unfold Tok
  rw [show ((l - n : Nat) : Int) = (l : Int) - n from by omega]
  simpa using this

set_option maxHeartbeats 800000 in
theorem take_no (b r u l : Nat) (n : Int) (w : World) (hB : Tok w b 49 r u l) (hn : n < 0 ∨ (l : Int) < n) : Calls Try.prog 13 #[.pointer (some ⟨b, 0, none⟩), .int .i64 n] w fun e w' => e = .returned (.bool false) ∧ w = w' := by
  have c2 := Blk.cell hB 2
  simp only [List.getElem?_toArray, List.getElem?_cons_zero, List.getElem?_cons_succ] at c2
  clear hB
  by_cases h0 : n < 0
  · clear hn
    go_enter Try.func13, Try.ntmps13
    go_wp2
    go_ret
    exact ⟨rfl, rfl⟩
  · have h1 : (l : Int) < n := by omega
    clear hn
    go_enter Try.func13, Try.ntmps13
    go_wp2
    go_ret
    exact ⟨rfl, rfl⟩

set_option maxHeartbeats 800000 in
theorem tick_any (b r u l : Nat) (w : World) (hB : Tok w b 49 r u l) (hl : l ≤ 1048576) (hr : r ≤ 1048576) : Calls Try.prog 11 #[.pointer (some ⟨b, 0, none⟩)] w fun e w' => e = .returned (.tuple #[]) ∧ Tok w' b 49 r u (min (l + r) u) ∧ Fr (fun i => i = b) w w' := by
  have c0 := Blk.cell hB 0
  have c1 := Blk.cell hB 1
  have c2 := Blk.cell hB 2
  have f2 := Blk.frozen hB 2
  simp only [List.getElem?_toArray, List.getElem?_cons_zero, List.getElem?_cons_succ] at c0 c1 c2
  have h2 : (l : Int) ≤ 1048576 := by omega
  have h3 : (r : Int) ≤ 1048576 := by omega
  have HB := Lib.hid hB
  clear hB
  by_cases h : l + r ≤ u
  · have h4 : (l : Int) + r ≤ u := by omega
    rw [show min (l + r) u = l + r from Nat.min_eq_left h]
    clear h
    go_enter Try.func11, Try.ntmps11
    go_wp2
    go_region
    all_goals
      go_wp2
      go_end0
      refine ⟨rfl, ?_, ((Fr.refl (fun i => i = b) w).setCell (p := ⟨b, 2, none⟩) (.inl rfl) _).drew⟩
      have := (Blk.set_ HB.out 2 (.int .i64 ((l : Int) + r))).drew
      unfold Tok
      simpa using this
  · have h4 : (u : Int) < (l : Int) + r := by omega
    have h5 : ¬ ((l : Int) + r ≤ u) := by omega
    rw [show min (l + r) u = u from Nat.min_eq_right (by omega)]
    clear h
    go_enter Try.func11, Try.ntmps11
    go_wp2
    go_region
    all_goals
      go_wp2
      go_end0
      refine ⟨rfl, ?_, ((Fr.refl (fun i => i = b) w).setCell (p := ⟨b, 2, none⟩) (.inl rfl) _).drew⟩
      have := (Blk.set_ HB.out 2 (.int .i64 (u : Int))).drew
      unfold Tok
      simpa using this

set_option maxHeartbeats 1600000 in
theorem rtick_any (b r u l : Nat) (w : World) (hB : Tok w b 35 r u l) (hl : l ≤ 1048576) (hr : r ≤ 1048576) : Calls Try.prog 12 #[.pointer (some ⟨b, 0, none⟩)] w fun e w' => e = .returned (.tuple #[]) ∧ Tok w' b 35 r u (min (l + r) u) ∧ Fr (fun i => i = b) w w' := by
  have c0 := Blk.cell hB 0
  have c1 := Blk.cell hB 1
  have c2 := Blk.cell hB 2
  have f2 := Blk.frozen hB 2
  simp only [List.getElem?_toArray, List.getElem?_cons_zero, List.getElem?_cons_succ] at c0 c1 c2
  have h2 : (l : Int) ≤ 1048576 := by omega
  have h3 : (r : Int) ≤ 1048576 := by omega
  have hB1 := (Blk.set_ hB 2 (.int .i64 ((l : Int) + r))).drew
  have d1 := hB1.cell 1
  have d2 := hB1.cell 2
  have e2 := hB1.frozen 2
  simp only [List.setIfInBounds_toArray, List.set_cons_succ, List.set_cons_zero, List.getElem?_toArray, List.getElem?_cons_zero, List.getElem?_cons_succ] at d1 d2
  have HF1 := Lib.hid (((Fr.refl (fun i => i = b) w).setCell (p := ⟨b, 2, none⟩) (.inl rfl) (.int .i64 ((l : Int) + r))).drew)
  have HB1 := Lib.hid hB1
  clear hB hB1
  by_cases h : l + r ≤ u
  · have h4 : (l : Int) + r ≤ u := by omega
    rw [show min (l + r) u = l + r from Nat.min_eq_left h]
    clear h
    go_enter Try.func12, Try.ntmps12
    go_wp2
    go_region
    all_goals
      generalize (w.setCell ⟨b, 2, none⟩ (.int .i64 ((l : Int) + r))).drew = W at *
      go_wp2
      go_quiet (fail)
      go_wp2
      go_end0
      refine ⟨rfl, ?_, HF1.out.drewN _⟩
      have := HB1.out.drewN nq
      unfold Tok
      simpa using this
  · have h4 : (u : Int) < (l : Int) + r := by omega
    rw [show min (l + r) u = u from Nat.min_eq_right (by omega)]
    clear h
    go_enter Try.func12, Try.ntmps12
    go_wp2
    go_region
    all_goals
      generalize (w.setCell ⟨b, 2, none⟩ (.int .i64 ((l : Int) + r))).drew = W at *
      go_wp2
      go_quiet (fail)
      go_wp2
      go_end0
      refine ⟨rfl, ?_, (HF1.out.drewN _).setCell (p := ⟨b, 2, none⟩) (.inl rfl) _⟩
      have := (HB1.out.drewN nq).set_ 2 (.int .i64 (u : Int))
      unfold Tok
      simpa using this
set_option maxHeartbeats 800000 in
theorem rtake_yes (b r u l n : Nat) (w : World) (hB : Tok w b 35 r u l) (hn : n ≤ l) (hl : l ≤ 1048576) : Calls Try.prog 14 #[.pointer (some ⟨b, 0, none⟩), .int .i64 n] w fun e w' => e = .returned (.bool true) ∧ Tok w' b 35 r u (l - n) ∧ Fr (fun i => i = b) w w' := by
  have c2 := Blk.cell hB 2
  have f2 := Blk.frozen hB 2
  simp only [List.getElem?_toArray, List.getElem?_cons_zero, List.getElem?_cons_succ] at c2
  have h0 : ¬ (n : Int) < 0 := by omega
  have h1 : (n : Int) ≤ l := by omega
  have h2 : (l : Int) ≤ 1048576 := by omega
  have HB := Lib.hid hB
  clear hB
  go_enter Try.func14, Try.ntmps14
  go_wp2
  go_ret
  refine ⟨rfl, ?_, (Fr.refl (fun i => i = b) w).setCell (p := ⟨b, 2, none⟩) (.inl rfl) _⟩
  have := Blk.set_ HB.out 2 (.int .i64 ((l : Int) - n))
  unfold Tok
  rw [show ((l - n : Nat) : Int) = (l : Int) - n from by omega]
  simpa using this

set_option maxHeartbeats 800000 in
theorem rtake_no (b r u l : Nat) (n : Int) (w : World) (hB : Tok w b 35 r u l) (hn : n < 0 ∨ (l : Int) < n) : Calls Try.prog 14 #[.pointer (some ⟨b, 0, none⟩), .int .i64 n] w fun e w' => e = .returned (.bool false) ∧ w = w' := by
  have c2 := Blk.cell hB 2
  simp only [List.getElem?_toArray, List.getElem?_cons_zero, List.getElem?_cons_succ] at c2
  clear hB
  by_cases h0 : n < 0
  · clear hn
    go_enter Try.func14, Try.ntmps14
    go_wp2
    go_ret
    exact ⟨rfl, rfl⟩
  · have h1 : (l : Int) < n := by omega
    clear hn
    go_enter Try.func14, Try.ntmps14
    go_wp2
    go_ret
    exact ⟨rfl, rfl⟩

end Go.Proofs.Ytpmhncblhdddhaa
