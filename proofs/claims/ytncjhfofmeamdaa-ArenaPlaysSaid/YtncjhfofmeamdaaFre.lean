/- Free, New. -/
import Derived.Test.YtncjhfofmeamdaaSm
namespace Go.Proofs.Ytncjhfofmeamdaa
open Go.RowKit

/-- How many cells the rows below j have. -/
def sumF (f : Nat → List Nat) : Nat → Nat
  | 0 => 0
  | j + 1 => sumF f j + (f j).length * 2 ^ j
theorem sumF_le (f : Nat → List Nat) {i j : Nat} (h : i ≤ j) : sumF f i ≤ sumF f j := by
  induction h with
  | refl => exact Nat.le_refl _
  | step _ ih => exact Nat.le_trans ih (Nat.le_add_right _ _)
section
variable {w : World} {b m fb n : Nat} {A : Nat → Option Addr} {c : Nat → Nat} {f : Nat → List Nat} {T : List (Nat × Nat)}
set_option maxHeartbeats 1600000 in
theorem free_any (h : Ar w b m fb n A c f T) (hn : n ≤ 16) (hs : sumF f (n + 1) ≤ 1000000) :
    Calls Try.prog 21 #[.pointer (some ⟨b, 0, none⟩)] w fun e w' => e = .returned (.int .i64 (sumF f (n + 1) : Nat)) ∧ w = w' := by
  have b2 := h.cfree
  have H := Lib.hid h
  have HS := Lib.hid hs
  clear h hs
  go_enter Try.func21, Try.ntmps21
  go_wp2_with fail
  go_loop [3, 11] (fun v i => ∃ j : Nat, j ≤ n + 1 ∧ i = .int .i64 (j : Int) ∧ v = .int .i64 (sumF f j : Nat)) (fun _ i => 20 - (intOf i).toNat)
  case atStart => exact ⟨0, Nat.zero_le _, rfl, rfl⟩
  case round =>
    obtain ⟨j, hj, rfl, rfl⟩ := hrel
    by_cases hjn : j < n + 1
    · have r0 := H.out.crow (show j ≤ n by omega)
      have hb := sumF_le f hjn
      have hj16 : j ≤ 16 := by omega
      have hjI : (j : Int) < (n : Int) + 1 := by omega
      have hsum : sumF f j + (f j).length * 2 ^ j ≤ 1000000 := Nat.le_trans hb HS.out
      have HE := Lib.hid (show sumF f (j + 1) = sumF f j + (f j).length * 2 ^ j from rfl)
      clear hb
      generalize sumF f j = s at *
      generalize (f j).length = L at *
      have e1 : ((L * 2 ^ j : Nat) : Int) = (L : Int) * 2 ^ j := by rw [Int.natCast_mul, Int.natCast_pow]; rfl
      have hp1 : (0 : Int) ≤ (L : Int) * 2 ^ j := by omega
      have hp2 : (L : Int) * 2 ^ j ≤ 1000000 := by omega
      have hp3 : (s : Int) + (L : Int) * 2 ^ j ≤ 1000000 := by omega
      have HE1 := Lib.hid e1
      clear e1 hsum
      go_wp2_with fail
      go_round
      case rel => exact ⟨j + 1, by omega, by go_num, by rw [HE.out, Int.natCast_add, HE1.out]⟩
      case measure => simp [intOf]; omega
    · obtain rfl : j = n + 1 := by omega
      go_wp2_with fail
      go_ret
      exact ⟨rfl, rfl⟩
set_option maxHeartbeats 1600000 in
theorem new_no (w : World) (o : Int) (ho : o < 0 ∨ 16 < o) : Calls Try.prog 9 #[.int .i64 o] w fun e w' => e = .returned (.tuple #[.pointer none, .int .i64 1]) ∧ w = w' := by
  by_cases h : o < 0
  · clear ho
    go_enter Try.func9, Try.ntmps9
    go_wp2_with fail
    go_ret2
    exact ⟨rfl, rfl⟩
  · have h2 : 16 < o := by omega
    clear ho
    go_enter Try.func9, Try.ntmps9
    go_wp2_with fail
    go_ret2
    exact ⟨rfl, rfl⟩
end
theorem info34 : (Try.prog.info? 34).map (fun i => (i.zero, i.size, i.bytes)) = some (some (.slice none 0 0), 1, 24) := by kernel_rfl
theorem made_at (n j : Nat) (hj : j ≤ n) : (madeCells #[Value.slice none 0 0] (n + 1))[j]? = some (.slice none 0 0) := by
  unfold madeCells
  simp [show j < n + 1 by omega, Nat.mod_one]
/-- A new arena. -/
def NewE (w : World) (n : Nat) (e : Ending) (w' : World) : Prop :=
  e = .returned (.tuple #[.pointer (some ⟨w.heap.size + 2, 0, none⟩), .int .i64 0]) ∧ Ar w' (w.heap.size + 2) w.heap.size (w.heap.size + 1) n (upd (fun _ => none) n (some ⟨w.heap.size + 3, 0, none⟩)) (upd (fun _ => 0) n 1) (upd (fun _ => []) n [0]) [] ∧ Fr (fun _ => False) w w'
set_option maxHeartbeats 1600000 in
theorem new_ok (w : World) (n : Nat) (hn : n ≤ 16) : Calls Try.prog 9 #[.int .i64 (n : Int)] w (NewE w n) := by
  have hmk := run_makeMap (P := Try.prog) 48 w
  obtain ⟨i0, hi, hz0, hz1, hz2⟩ := info_parts info34
  have hms : ∀ W, (Instr.makeSlice 49 (.int .i64 ((n : Int) + 1)) (.int .i64 ((n : Int) + 1))).run Try.prog W = .ok (.slice (some ⟨W.heap.size, 0, none⟩) (n + 1) (n + 1)) (W.alloc (.cells (madeCells #[Value.slice none 0 0] (n + 1)) 34)) := fun W => by
    have := run_make_rowN (P := Try.prog) 49 34 i0 _ Try.underlying49 hi hz0 .i64 .i64 (n + 1) (n + 1) (Nat.le_refl _) (by rw [hz2]; omega) (by omega) W
    rw [hz1, Nat.mul_one] at this
    exact this
  have h0 : (0 : Int) ≤ (n : Int) := by omega
  have h1 : (n : Int) ≤ 16 := by omega
  have hA : Ar (((w.alloc (.map #[] 0)).alloc (.cells (madeCells #[Value.slice none 0 0] (n + 1)) 34)).alloc (.cells #[.int .i64 (n : Int), .map (some w.heap.size), .slice (some ⟨w.heap.size + 1, 0, none⟩) (n + 1) (n + 1)] 51)) (w.heap.size + 2) w.heap.size (w.heap.size + 1) n (fun _ => none) (fun _ => 0) (fun _ => []) [] := by
    have e1 : (w.alloc (.map #[] 0)).heap.size = w.heap.size + 1 := by simp
    have e2 : ((w.alloc (.map #[] 0)).alloc (.cells (madeCells #[Value.slice none 0 0] (n + 1)) 34)).heap.size = w.heap.size + 2 := by simp
    have b1 := Blk.new (w.alloc (.map #[] 0)) 34 (madeCells #[Value.slice none 0 0] (n + 1))
    rw [e1] at b1
    have b2 := Blk.new ((w.alloc (.map #[] 0)).alloc (.cells (madeCells #[Value.slice none 0 0] (n + 1)) 34)) 51 #[.int .i64 (n : Int), .map (some w.heap.size), .slice (some ⟨w.heap.size + 1, 0, none⟩) (n + 1) (n + 1)]
    rw [e2] at b2
    exact ⟨b2, ⟨_, b1.alloc _, by rw [size_madeCells], fun j hj => made_at n j hj⟩, ((MapIs.new w _ _ _ _).alloc _).alloc _, fun j _ => Row.nil_ _, nofun⟩
  have f1 : Fr (fun _ => False) w (((w.alloc (.map #[] 0)).alloc (.cells (madeCells #[Value.slice none 0 0] (n + 1)) 34)).alloc (.cells #[.int .i64 (n : Int), .map (some w.heap.size), .slice (some ⟨w.heap.size + 1, 0, none⟩) (n + 1) (n + 1)] 51)) := (((Fr.refl _ w).alloc _).alloc _).alloc _
  have hsz : (((w.alloc (.map #[] 0)).alloc (.cells (madeCells #[Value.slice none 0 0] (n + 1)) 34)).alloc (.cells #[.int .i64 (n : Int), .map (some w.heap.size), .slice (some ⟨w.heap.size + 1, 0, none⟩) (n + 1) (n + 1)] 51)).heap.size = w.heap.size + 3 := by simp
  have HA := Lib.hid hA
  have HF := Lib.hid f1
  have HZ := Lib.hid hsz
  clear hA f1 hsz
  go_enter Try.func9, Try.ntmps9
  go_upto_region 4 with fail
  generalize ((w.alloc (.map #[] 0)).alloc (.cells (madeCells #[Value.slice none 0 0] (n + 1)) 34)).alloc (.cells #[.int .i64 (n : Int), .map (some w.heap.size), .slice (some ⟨w.heap.size + 1, 0, none⟩) (n + 1) (n + 1)] 51) = W at *
  have c2 := HA.out.cfree
  have r0 := HA.out.crow (Nat.le_refl n)
  have z0 := HA.out.frow n
  have hnn : (n : Int) < (n : Int) + 1 := by omega
  have hB : Blk (W.alloc (.cells #[.int .i64 0] 3)) W.heap.size 3 #[.int .i64 0] := Blk.new _ _ _
  have hP := HA.out.put (Nat.le_refl n) (((Fr.refl (fun i => ∃ o, (none : Option Addr) = some ⟨i, o, none⟩) W).alloc (.cells #[.int .i64 0] 3))) (A' := some ⟨W.heap.size, 0, none⟩) (c' := 1) (Y := [0]) (.inr ⟨W.heap.size, 0, _, rfl, hB, by simp, by omega, by simp, fun j x hj => by
    have h3 : j = 0 := by have := (List.getElem?_eq_some_iff.1 hj).1; simp at this; exact this
    subst h3
    simp at hj
    subst hj
    rfl⟩) (fun g o e => by rw [Option.some.injEq, Addr.mk.injEq] at e; exact .inr (by omega))
  have HP := Lib.hid hP
  have hlt := HA.out.ltf
  have hlt2 := HA.out.lt
  clear hP hB hms hmk
  go_wp2_with fail
  go_ret2
  have hP := HP.out
  have hf2 : Fr (fun _ => False) w ((W.alloc (.cells #[.int .i64 0] 3)).setCell ⟨w.heap.size + 1, n, none⟩ (.slice (some ⟨W.heap.size, 0, none⟩) [0].length 1)) := (HF.out.alloc _).setCell (.inr (by show w.heap.size ≤ w.heap.size + 1; omega)) _
  rw [World.setCell_alloc_past _ _ _ _ hlt] at hP hf2
  have hfin : NewE w n (.returned (.tuple #[.pointer (some ⟨w.heap.size + 2, 0, none⟩), .int .i64 0])) ((W.setCell ⟨w.heap.size + 1, n, none⟩ (.slice (some ⟨W.heap.size, 0, none⟩) [0].length 1)).alloc (.cells #[.int .i64 0] 3)) := ⟨rfl, by rw [HZ.out] at hP ⊢; exact hP, hf2⟩
  exact hfin
end Go.Proofs.Ytncjhfofmeamdaa
