/- awake(): the chapter's example. -/
import Derived.Test.YtncjhfofmeamdaaMad
namespace Go.Proofs.Ytncjhfofmeamdaa
open Go.RowKit

instance (n : Nat) (T : Tk) (j x : Nat) : Decidable (Frb n T j x) := by unfold Frb Dy clr Dis; infer_instance
theorem Frb.lt {n : Nat} {T : Tk} {j x : Nat} (h : Frb n T j x) : x < 2 ^ n := by
  have := h.2.2.1
  have := p2 j
  omega
theorem fit_dec {n : Nat} {T : Tk} {o k a : Nat} (h : o ≤ k ∧ k ≤ n ∧ (∀ j, j < k → o ≤ j → ∀ x, x < 2 ^ n → ¬ Frb n T j x) ∧ Frb n T k a ∧ ∀ x, x < 2 ^ n → Frb n T k x → a ≤ x) : Fit n T o k a :=
  ⟨h.1, h.2.1, fun j h1 h2 x hx => h.2.2.1 j h2 h1 x hx.lt hx, h.2.2.2.1, fun x hx => h.2.2.2.2 x hx.lt hx⟩
theorem nofit_dec {n : Nat} {T : Tk} {o : Nat} (h : ∀ j, j < n + 1 → o ≤ j → ∀ x, x < 2 ^ n → ¬ Frb n T j x) : NoFit n T o := fun j h1 h2 x hx => h j (by omega) h1 x hx.lt hx
theorem great_dec {n : Nat} {T : Tk} {g x : Nat} (h : g ≤ n ∧ (∀ j, j < n + 1 → g < j → ∀ x, x < 2 ^ n → ¬ Frb n T j x) ∧ Frb n T g x) : Great n T (g : Int) :=
  ⟨by omega, by have := h.1; omega, fun j h1 h2 x hx => h.2.1 j (by omega) (by omega) x hx.lt hx, fun _ => ⟨x, by rw [Int.toNat_natCast]; exact h.2.2⟩⟩
theorem row_new (w : World) (l : List Nat) (hm : l.length ≤ 9223372036854775807) : Row (w.alloc (.cells (ints l).toArray 3)) (some ⟨w.heap.size, 0, none⟩) l.length l := by
  refine .inr ⟨w.heap.size, 0, _, rfl, Blk.new w 3 _, Nat.le_refl _, hm, by simp [ints], fun j x hj => ?_⟩
  simp [ints, hj]
theorem sortL_eq {l r : List Nat} (h : r.Perm l) (hs : r.Pairwise (· ≤ ·)) : sortL l = r := by
  refine List.Perm.eq_of_pairwise (le := fun a b => a ≤ b) (fun a b _ _ h1 h2 => Nat.le_antisymm h1 h2) ?_ hs ((List.mergeSort_perm l _).trans h.symm)
  exact (List.pairwise_mergeSort (fun a b c h1 h2 => by simp at h1 h2 ⊢; omega) (fun a b => by simp; omega) l).imp fun h => by simpa using h

set_option maxRecDepth 100000 in
set_option maxHeartbeats 3200000 in
theorem awake_any (w : World) : Calls Try.prog 8 #[] w fun e w' => e = .returned (.bool true) ∧ Below w.heap.size w w' := by
  go_enter Try.func8, Try.ntmps8
  go_wp2_with fail
  refine (new_liv w 3 (by omega)).mono ?_
  rintro e w1 ⟨rfl, h1, f1⟩
  have L1 := Lib.hid h1
  have B1 := Lib.hid (show Below w.heap.size w w1 from f1.below (Nat.le_refl _) fun _ _ h => h.elim)
  generalize w.heap.size + 2 = b at *
  clear h1 f1
  go_wp2_with fail
  refine (new_no w1 17 (by omega)).mono ?_
  rintro e w2 ⟨rfl, rfl⟩
  go_wp2_with fail
  refine (L1.out.take (o := 0) (k := 3) (a := 0) (fit_dec (by decide))).mono ?_
  rintro e w2 ⟨rfl, h2, f2⟩
  have L2 := Lib.hid (h2.mono (S' := fun i => w.heap.size ≤ i) fun i h => h.elim id fun h => Nat.le_trans B1.out.size h)
  have B2 := Lib.hid (below_fr B1.out f2 B1.out.size fun _ h => h)
  clear h2 f2
  go_wp2_with fail
  refine (L2.out.take (o := 1) (k := 1) (a := 2) (fit_dec (by decide))).mono ?_
  rintro e w3 ⟨rfl, h2, f2⟩
  have L3 := Lib.hid (h2.mono (S' := fun i => w.heap.size ≤ i) fun i h => h.elim id fun h => Nat.le_trans B2.out.size h)
  have B3 := Lib.hid (below_fr B2.out f2 B2.out.size fun _ h => h)
  clear h2 f2
  go_wp2_with fail
  refine (L3.out.take (o := 0) (k := 0) (a := 1) (fit_dec (by decide))).mono ?_
  rintro e w4 ⟨rfl, h2, f2⟩
  have L4 := Lib.hid (h2.mono (S' := fun i => w.heap.size ≤ i) fun i h => h.elim id fun h => Nat.le_trans B3.out.size h)
  have B4 := Lib.hid (below_fr B3.out f2 B3.out.size fun _ h => h)
  clear h2 f2
  go_wp2_with fail
  refine (L4.out.take_no 3 (by omega) (nofit_dec (by decide))).mono ?_
  rintro e w5 ⟨rfl, rfl⟩
  go_wp2_with fail
  refine (L4.out.free).mono ?_
  rintro e w5 ⟨rfl, rfl⟩
  rw [show ((2 ^ 3 - sizes ([] ++ [(0, 0)] ++ [(2, 1)] ++ [(1, 0)]) : Nat) : Int) = 4 by decide]
  go_wp2_with fail
  refine (L4.out.greatest (g := 2) (great_dec (g := 2) (x := 4) (by decide))).mono ?_
  rintro e w5 ⟨rfl, rfl⟩
  go_wp2_with fail
  refine (L4.out.taken).mono ?_
  rintro e w5 ⟨g5, c5, l5, rfl, hl, hr, _, f5⟩
  have e5 : sortL (List.map (fun x => x.1) ([] ++ [((0 : Nat), (0 : Nat))] ++ [(2, 1)] ++ [(1, 0)])) = [0, 1, 2] := sortL_eq (by decide) (by decide)
  rw [e5] at hl
  subst hl
  have L5 := Lib.hid (L4.out.fr0 f5)
  have B5 := Lib.hid (below_fr B4.out f5 B4.out.size fun _ h => h.elim)
  have R5 := Lib.hid hr
  clear hr f5
  go_wp2_with fail
  have f6 : Fr (fun _ => False) w5 (w5.alloc (.cells #[.int .i64 0, .int .i64 1, .int .i64 2] 3)) := (Fr.refl _ _).alloc _
  refine (same_ints (xs := [0, 1, 2]) (ys := [0, 1, 2]) (R5.out.fr0 f6) (row_new w5 [0, 1, 2] (by decide)) rfl rfl (by decide) true rfl).mono ?_
  rintro e w6 ⟨rfl, k6, rfl⟩
  have L6 := Lib.hid (L5.out.fr0 (f6.drewN k6))
  have B6 := Lib.hid (below_fr B5.out (f6.drewN k6) B5.out.size fun _ h => h.elim)
  clear f6
  generalize (w5.alloc (.cells #[.int .i64 0, .int .i64 1, .int .i64 2] 3)).drewN k6 = w6 at *
  go_wp2_with fail
  refine (L6.out.give (a := 1) (o := 0) (by decide)).mono ?_
  rintro e w7 ⟨rfl, h2, f2⟩
  have e7 : drop ([] ++ [((0 : Nat), (0 : Nat))] ++ [(2, 1)] ++ [(1, 0)]) 1 = [(0, 0), (2, 1)] := by decide
  rw [e7] at h2
  have L7 := Lib.hid (h2.mono (S' := fun i => w.heap.size ≤ i) fun i h => h.elim id fun h => Nat.le_trans B6.out.size h)
  have B7 := Lib.hid (below_fr B6.out f2 B6.out.size fun _ h => h)
  clear h2 f2
  go_wp2_with fail
  refine (L7.out.give_no 1 (by omega) (by omega) (by decide)).mono ?_
  rintro e w8 ⟨rfl, rfl⟩
  go_wp2_with fail
  refine (L7.out.order 2 (by omega) (by omega)).mono ?_
  rintro e w8 ⟨rfl, rfl⟩
  rw [show ordAt [((0 : Nat), (0 : Nat)), (2, 1)] 2 = 1 by decide]
  go_wp2_with fail
  refine (L7.out.order 1 (by omega) (by omega)).mono ?_
  rintro e w8 ⟨rfl, rfl⟩
  rw [show ordAt [((0 : Nat), (0 : Nat)), (2, 1)] 1 = -1 by decide]
  go_wp2_with fail
  go_ret
  exact ⟨rfl, B7.out⟩
end Go.Proofs.Ytncjhfofmeamdaa
