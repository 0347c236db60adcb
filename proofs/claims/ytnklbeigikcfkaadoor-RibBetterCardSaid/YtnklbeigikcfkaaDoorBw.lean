/- RibBetter: what it answers. -/
import Derived.Test.YtnklbeigikcfkaaDoorAe
import Derived.Test.YtnklbeigikcfkaaDoorQf
namespace Go.Proofs.YtnklbeigikcfkaaDoor
open Go.Proofs Go.Shelf Go.RowKit
set_option maxHeartbeats 12800000 in
set_option maxRecDepth 100000 in
theorem better_key (x y z : Pa) (hx : x.ok) (hy : y.ok) (hz : z.ok) (w : World) (hd : Dst w) (a b q r : Bool) (ha : betP x y = a) (hb : betP y x = b) (hq : betP y z = q) (hr : betP x z = r)
    (hc : (a = true ∧ b = false ∧ q = true ∧ r = true) ∨ (a = true ∧ b = false ∧ q = false) ∨ a = false) :
    Calls Tryd.prog 3 #[paV x, paV y, paV z] w fun e w' => e = .returned (.bool true) ∧ Fr N0 w w' := by
  have ka := fun (W : World) (hW : Fr N0 w W) => awake15 (hd.n0 hW)
  have kxy := fun (W : World) (hW : Fr N0 w W) => ha ▸ bet_ (w := W) x y hx hy (hd.n0 hW)
  have kyx := fun (W : World) (hW : Fr N0 w W) => hb ▸ bet_ (w := W) y x hy hx (hd.n0 hW)
  have kyz := fun (W : World) (hW : Fr N0 w W) => hq ▸ bet_ (w := W) y z hy hz (hd.n0 hW)
  have kxz := fun (W : World) (hW : Fr N0 w W) => hr ▸ bet_ (w := W) x z hx hz (hd.n0 hW)
  have kxx := fun (W : World) (hW : Fr N0 w W) => betP_irrefl x ▸ bet_ (w := W) x x hx hx (hd.n0 hW)
  have kr := fun (W : World) => ha ▸ rbet_ (w := W) x y
  clear ha hb hq hr hx hy hz hd
  obtain ⟨p1, m1, ⟨s1, h1, l1⟩, o1, a1⟩ := x
  obtain ⟨p2, m2, ⟨s2, h2, l2⟩, o2, a2⟩ := y
  obtain ⟨p3, m3, ⟨s3, h3, l3⟩, o3, a3⟩ := z
  unfold paV at *
  simp only at *
  have HC := Lib.hid hc
  clear hc
  go_enter Tryd.func3, Tryd.ntmps3
  go_wp2_with fail
  have HA1 := Lib.hid (((Blk.new w 26 #[Value.int .i64 p1, Value.int .i64 m1, Value.bool s1, Value.int .u64 (h1 : Int), Value.int .u64 (l1 : Int), Value.int .i64 o1, Value.bool a1]).alloc (.cells #[Value.int .i64 p2, Value.int .i64 m2, Value.bool s2, Value.int .u64 (h2 : Int), Value.int .u64 (l2 : Int), Value.int .i64 o2, Value.bool a2] 26)).alloc (.cells #[Value.int .i64 p3, Value.int .i64 m3, Value.bool s3, Value.int .u64 (h3 : Int), Value.int .u64 (l3 : Int), Value.int .i64 o3, Value.bool a3] 26))
  have HA2 := Lib.hid ((Blk.alloc2 w (.cells #[Value.int .i64 p1, Value.int .i64 m1, Value.bool s1, Value.int .u64 (h1 : Int), Value.int .u64 (l1 : Int), Value.int .i64 o1, Value.bool a1] 26) 26 #[Value.int .i64 p2, Value.int .i64 m2, Value.bool s2, Value.int .u64 (h2 : Int), Value.int .u64 (l2 : Int), Value.int .i64 o2, Value.bool a2]).alloc (.cells #[Value.int .i64 p3, Value.int .i64 m3, Value.bool s3, Value.int .u64 (h3 : Int), Value.int .u64 (l3 : Int), Value.int .i64 o3, Value.bool a3] 26))
  have HA3 := Lib.hid (Blk.alloc3 w (.cells #[Value.int .i64 p1, Value.int .i64 m1, Value.bool s1, Value.int .u64 (h1 : Int), Value.int .u64 (l1 : Int), Value.int .i64 o1, Value.bool a1] 26) (.cells #[Value.int .i64 p2, Value.int .i64 m2, Value.bool s2, Value.int .u64 (h2 : Int), Value.int .u64 (l2 : Int), Value.int .i64 o2, Value.bool a2] 26) 26 #[Value.int .i64 p3, Value.int .i64 m3, Value.bool s3, Value.int .u64 (h3 : Int), Value.int .u64 (l3 : Int), Value.int .i64 o3, Value.bool a3])
  have HF1 := Lib.hid (Fr.alloc (Fr.alloc (Fr.alloc (Fr.refl N0 w) (.cells #[Value.int .i64 p1, Value.int .i64 m1, Value.bool s1, Value.int .u64 (h1 : Int), Value.int .u64 (l1 : Int), Value.int .i64 o1, Value.bool a1] 26)) (.cells #[Value.int .i64 p2, Value.int .i64 m2, Value.bool s2, Value.int .u64 (h2 : Int), Value.int .u64 (l2 : Int), Value.int .i64 o2, Value.bool a2] 26)) (.cells #[Value.int .i64 p3, Value.int .i64 m3, Value.bool s3, Value.int .u64 (h3 : Int), Value.int .u64 (l3 : Int), Value.int .i64 o3, Value.bool a3] 26))
  generalize World.alloc (World.alloc (w.alloc _) _) _ = w1 at *
  obtain ⟨g3, hg3⟩ : ∃ g3, g3 = w.heap.size + 2 := ⟨_, rfl⟩
  rw [← hg3] at HA3 ⊢
  have HG3 : Hid (w.heap.size ≤ g3) := Lib.hid (by omega)
  obtain ⟨g2, hg2⟩ : ∃ g2, g2 = w.heap.size + 1 := ⟨_, rfl⟩
  rw [← hg2] at HA2 ⊢
  have HG2 : Hid (w.heap.size ≤ g2) := Lib.hid (by omega)
  obtain ⟨g1, hg1⟩ : ∃ g1, g1 = w.heap.size := ⟨_, rfl⟩
  rw [← hg1] at HA1 ⊢
  have HG1 : Hid (w.heap.size ≤ g1) := Lib.hid (by omega)
  have HN2_3 : Hid (g2 ≠ g3) := Lib.hid (by omega)
  have HN1_2 : Hid (g1 ≠ g2) := Lib.hid (by omega)
  have HN1_3 : Hid (g1 ≠ g3) := Lib.hid (by omega)
  clear hg1 hg2 hg3
  have HZ1 : Hid (∀ W, Fr N0 w1 W → Blk W g1 26 #[Value.int .i64 p1, Value.int .i64 m1, Value.bool s1, Value.int .u64 (h1 : Int), Value.int .u64 (l1 : Int), Value.int .i64 o1, Value.bool a1]) := Lib.hid fun W hf => HA1.out.fr hf id
  have HZ2 : Hid (∀ W, Fr N0 w1 W → Blk W g2 26 #[Value.int .i64 p2, Value.int .i64 m2, Value.bool s2, Value.int .u64 (h2 : Int), Value.int .u64 (l2 : Int), Value.int .i64 o2, Value.bool a2]) := Lib.hid fun W hf => HA2.out.fr hf id
  have HZ3 : Hid (∀ W, Fr N0 w1 W → Blk W g3 26 #[Value.int .i64 p3, Value.int .i64 m3, Value.bool s3, Value.int .u64 (h3 : Int), Value.int .u64 (l3 : Int), Value.int .i64 o3, Value.bool a3]) := Lib.hid fun W hf => HA3.out.fr hf id
  have F := Lib.hid (Fr.refl N0 w1)
  obtain ⟨z1_0, z1_1, z1_2, z1_3, z1_4, z1_5, z1_6⟩ := (HZ1.out _ F.out).c7
  obtain ⟨z2_0, z2_1, z2_2, z2_3, z2_4, z2_5, z2_6⟩ := (HZ2.out _ F.out).c7
  obtain ⟨z3_0, z3_1, z3_2, z3_3, z3_4, z3_5, z3_6⟩ := (HZ3.out _ F.out).c7
  refine (ka _ HF1.out).mono ?_
  rintro e w2 ⟨rfl, hf⟩
  have F := Lib.hid (F.out.trans hf); obtain ⟨z1_0, z1_1, z1_2, z1_3, z1_4, z1_5, z1_6⟩ := (HZ1.out _ F.out).c7; obtain ⟨z2_0, z2_1, z2_2, z2_3, z2_4, z2_5, z2_6⟩ := (HZ2.out _ F.out).c7; obtain ⟨z3_0, z3_1, z3_2, z3_3, z3_4, z3_5, z3_6⟩ := (HZ3.out _ F.out).c7
  go_wp2_with fail
  refine (kxy _ (HF1.out.trans F.out)).mono ?_
  rintro e w3 ⟨rfl, hf⟩
  have F := Lib.hid (F.out.trans hf); obtain ⟨z1_0, z1_1, z1_2, z1_3, z1_4, z1_5, z1_6⟩ := (HZ1.out _ F.out).c7; obtain ⟨z2_0, z2_1, z2_2, z2_3, z2_4, z2_5, z2_6⟩ := (HZ2.out _ F.out).c7; obtain ⟨z3_0, z3_1, z3_2, z3_3, z3_4, z3_5, z3_6⟩ := (HZ3.out _ F.out).c7
  go_wp2_with fail
  refine (kyx _ (HF1.out.trans F.out)).mono ?_
  rintro e w4 ⟨rfl, hf⟩
  have F := Lib.hid (F.out.trans hf); obtain ⟨z1_0, z1_1, z1_2, z1_3, z1_4, z1_5, z1_6⟩ := (HZ1.out _ F.out).c7; obtain ⟨z2_0, z2_1, z2_2, z2_3, z2_4, z2_5, z2_6⟩ := (HZ2.out _ F.out).c7; obtain ⟨z3_0, z3_1, z3_2, z3_3, z3_4, z3_5, z3_6⟩ := (HZ3.out _ F.out).c7
  have hc := HC.out
  clear HC ka kyx
  rcases hc with ⟨rfl, rfl, rfl, rfl⟩ | ⟨rfl, rfl, rfl⟩ | rfl
  all_goals try cases b
  all_goals
    go_wp2_with (first
      | (go_at_call 9; refine (kr _).mono ?_; rintro e w5 ⟨rfl, hf⟩; have F := Lib.hid (F.out.trans hf); obtain ⟨z1_0, z1_1, z1_2, z1_3, z1_4, z1_5, z1_6⟩ := (HZ1.out _ F.out).c7; obtain ⟨z2_0, z2_1, z2_2, z2_3, z2_4, z2_5, z2_6⟩ := (HZ2.out _ F.out).c7; obtain ⟨z3_0, z3_1, z3_2, z3_3, z3_4, z3_5, z3_6⟩ := (HZ3.out _ F.out).c7)
      | (go_at_call 8; first
        | ((with_reducible refine (kxx _ (HF1.out.trans F.out)).mono ?_); rintro e w5 ⟨rfl, hf⟩; have F := Lib.hid (F.out.trans hf); obtain ⟨z1_0, z1_1, z1_2, z1_3, z1_4, z1_5, z1_6⟩ := (HZ1.out _ F.out).c7; obtain ⟨z2_0, z2_1, z2_2, z2_3, z2_4, z2_5, z2_6⟩ := (HZ2.out _ F.out).c7; obtain ⟨z3_0, z3_1, z3_2, z3_3, z3_4, z3_5, z3_6⟩ := (HZ3.out _ F.out).c7)
        | ((with_reducible refine (kyz _ (HF1.out.trans F.out)).mono ?_); rintro e w5 ⟨rfl, hf⟩; have F := Lib.hid (F.out.trans hf); obtain ⟨z1_0, z1_1, z1_2, z1_3, z1_4, z1_5, z1_6⟩ := (HZ1.out _ F.out).c7; obtain ⟨z2_0, z2_1, z2_2, z2_3, z2_4, z2_5, z2_6⟩ := (HZ2.out _ F.out).c7; obtain ⟨z3_0, z3_1, z3_2, z3_3, z3_4, z3_5, z3_6⟩ := (HZ3.out _ F.out).c7)
        | ((with_reducible refine (kxz _ (HF1.out.trans F.out)).mono ?_); rintro e w5 ⟨rfl, hf⟩; have F := Lib.hid (F.out.trans hf); obtain ⟨z1_0, z1_1, z1_2, z1_3, z1_4, z1_5, z1_6⟩ := (HZ1.out _ F.out).c7; obtain ⟨z2_0, z2_1, z2_2, z2_3, z2_4, z2_5, z2_6⟩ := (HZ2.out _ F.out).c7; obtain ⟨z3_0, z3_1, z3_2, z3_3, z3_4, z3_5, z3_6⟩ := (HZ3.out _ F.out).c7)))
    go_ret
    exact ⟨rfl, HF1.out.trans F.out⟩
theorem better_any (x y z : Pa) (hx : x.ok) (hy : y.ok) (hz : z.ok) (w : World) (hd : Dst w) : Calls Tryd.prog 3 #[paV x, paV y, paV z] w fun e w' => e = .returned (.bool true) ∧ Fr N0 w w' := by
  refine better_key x y z hx hy hz w hd _ _ _ _ rfl rfl rfl rfl ?_
  cases ha : betP x y with
  | false => exact .inr (.inr rfl)
  | true =>
    have hb := betP_asymm ha
    cases hq : betP y z with
    | false => exact .inr (.inl ⟨rfl, hb, rfl⟩)
    | true => exact .inl ⟨rfl, hb, rfl, betP_trans ha hq⟩
theorem pa_arr {A : Array Value} {x : Pa} (h : A.toList = Pa.cs x) : Value.agg A = paV x := by
  rw [← Array.toArray_toList (xs := A), h]
  rfl
theorem better_walk (W : World) (_hS : W.ShapedOpen Tryd.prog) (ht : Dst W) (A : Array Value) (ra : Rd Tryd.prog W 26 A.toList) (B : Array Value) (rb : Rd Tryd.prog W 26 B.toList) (C : Array Value) (rc : Rd Tryd.prog W 26 C.toList) :
    Calls Tryd.prog 3 #[.agg A, .agg B, .agg C] W fun e w' => e = .returned (.bool true) ∧ Below W.heap.size W w' := by
  obtain ⟨p, ep, hp⟩ := rd_pa ra
  obtain ⟨q, eq, hq⟩ := rd_pa rb
  obtain ⟨r, er, hr⟩ := rd_pa rc
  rw [pa_arr ep, pa_arr eq, pa_arr er]
  exact (better_any p q r hp hq hr W ht).mono fun e w' ⟨he, hf⟩ => ⟨he, hf.below (Nat.le_refl _) fun _ _ h => h.elim⟩
end Go.Proofs.YtnklbeigikcfkaaDoor
