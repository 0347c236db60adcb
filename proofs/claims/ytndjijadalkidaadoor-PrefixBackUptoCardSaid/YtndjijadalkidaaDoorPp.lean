/- prefix.Parse, where the text has a slash and the address is one. -/
import Derived.Test.YtndjijadalkidaaDoorPa
namespace Go.Proofs.YtndjijadalkidaaDoor
open Go.Proofs Go.Shelf Go.RowKit
/-- The library's own variable stands. -/
def Mx (m : Int) (W : World) : Prop := W.cell? ⟨0, 0, none⟩ = some (.int .i64 m)
theorem Mx.fr {m : Int} {w W : World} (h : Mx m w) (hF : Fr N0 w W) : Mx m W := (hF.cell (p := ⟨0, 0, none⟩) (World.block_lt_of_cell? _ _ h) id).trans h
/-- What a text is read as, when its address and its bits are read. -/
def parsP (a : Ad) (k : Int) : Px × Int := if validP ⟨a, k⟩ = true then (⟨a, k⟩, 0) else (⟨⟨false, 0, 0⟩, 0⟩, 30)
section
variable {w : World}
set_option maxHeartbeats 1600000 in
set_option maxRecDepth 100000 in
theorem pparse (s x y : ByteArray) (m : Int) (hm : Mx m w) (a : Ad) (k : Int) (hp : (⟨a, k⟩ : Px).ok)
    (h40 : ∀ W : World, Mx m W → Calls Tryd.prog 40 #[.string s, .string ⟨#[47]⟩] W fun e w' => e = .returned (.tuple #[.string x, .string y, .bool true]) ∧ Fr N0 W w')
    (h41 : ∀ W : World, Mx m W → Calls Tryd.prog 41 #[.string x] W fun e w' => e = .returned (.tuple #[adV a, .int .i64 0]) ∧ Fr N0 W w')
    (h42 : ∀ W : World, Calls Tryd.prog 42 #[.string y] W fun e w' => e = .returned (.int .i64 k) ∧ Fr N0 W w') :
    Calls Tryd.prog 23 #[.string s] w fun e w' => e = .returned (.tuple #[pxV (parsP a k).1, .int .i64 (parsP a k).2]) ∧ Fr N0 w w' := by
  obtain ⟨s1, h1, l1⟩ := a
  unfold adV at h41
  have c14 : ∀ (w : World) {b : Bool}, validP ⟨⟨s1, h1, l1⟩, k⟩ = b → Calls Tryd.prog 14 #[.agg #[.bool s1, .int .u64 (h1 : Int), .int .u64 (l1 : Int), .int .i64 k]] w fun e w' => e = .returned (.bool b) ∧ Fr N0 w w' := fun w b hb => hb ▸ val_ (w := w) ⟨⟨s1, h1, l1⟩, k⟩ hp
  go_enter Tryd.func23, Tryd.ntmps23
  go_wp2_with fail
  have HF0 := Lib.hid (Fr.alloc (Fr.refl N0 w) (.cells #[.bool false, .int .u64 0, .int .u64 0, .int .i64 0] 26))
  have HM := Lib.hid (hm.fr HF0.out)
  have HA2 := Lib.hid (Blk.new w 26 #[.bool false, .int .u64 0, .int .u64 0, .int .i64 0])
  generalize w.alloc _ = w1 at *
  obtain ⟨g2, hg2⟩ : ∃ g, g = w.heap.size := ⟨_, rfl⟩
  rw [← hg2] at HA2 ⊢
  have HG2 := Lib.hid (Nat.le_of_eq hg2.symm)
  clear hg2 hm
  go_wp2_with (first
    | (go_at_call 40; refine (h40 _ HM.out).mono ?_; rintro e w2 ⟨rfl, hf⟩; have F2 := Lib.hid hf)
    | (go_at_call 41; refine (h41 _ (HM.out.fr F2.out)).mono ?_; rintro e w3 ⟨rfl, hf3⟩; have F3 := Lib.hid (F2.out.trans hf3)))
  have HB := Lib.hid (Blk.new w3 24 #[.bool s1, .int .u64 (h1 : Int), .int .u64 (l1 : Int)])
  have HF4 := Lib.hid (HF0.out.trans (F3.out.alloc (.cells #[.bool s1, .int .u64 (h1 : Int), .int .u64 (l1 : Int)] 24)))
  have HA4 := Lib.hid ((HA2.out.fr F3.out id).alloc (.cells #[.bool s1, .int .u64 (h1 : Int), .int .u64 (l1 : Int)] 24))
  generalize w3.alloc _ = w4 at *
  generalize w3.heap.size = g7 at *
  obtain ⟨z0, z1, z2⟩ := HB.out.c3
  have HZ := Lib.hid fun (W : World) (hf : Fr N0 w4 W) => (HB.out.fr hf id).c3
  have hlt7 : g7 < w4.heap.size := HB.out.lt
  go_region_with ((go_at_call 42; first
    | ((with_reducible refine (h42 (World.drew (World.alloc _ _))).mono ?_); rintro e w5 ⟨rfl, hf5⟩; have F5 := Lib.hid (((Fr.refl N0 w4).alloc _).drew.trans hf5); have B5 : Blk w5 w4.heap.size 26 #[.bool false, .int .u64 0, .int .u64 0, .int .i64 0] := (Blk.new _ _ _).drew.fr hf5 id; obtain ⟨p0, p1, p2, p3⟩ := B5.c4; have q0 := B5.frozen 0; have q1 := B5.frozen 1; have q2 := B5.frozen 2; have q3 := B5.frozen 3; obtain ⟨z0, z1, z2⟩ := HZ.out _ F5.out; have hlt5 : g7 < w5.heap.size := (HB.out.fr F5.out id).lt)
    | (refine (h42 _).mono ?_; rintro e w5 ⟨rfl, hf5⟩; have F5 := Lib.hid ((Fr.refl N0 w4).drew.trans hf5); obtain ⟨z0, z1, z2⟩ := HZ.out _ F5.out; have hlt5 : g7 < w5.heap.size := (HB.out.fr F5.out id).lt)))
  all_goals go_wp2_with fail
  all_goals first
    | (have HB9 := Lib.hid (B5.set4 (.bool s1) (.int .u64 (h1 : Int)) (.int .u64 (l1 : Int)) (.int .i64 k)); have HF9 := Lib.hid ((((F5.out.setCell (p := ⟨w4.heap.size, 0, none⟩) (.inr (Nat.le_refl _)) (.bool s1)).setCell (p := ⟨w4.heap.size, 1, none⟩) (.inr (Nat.le_refl _)) (.int .u64 (h1 : Int))).setCell (p := ⟨w4.heap.size, 2, none⟩) (.inr (Nat.le_refl _)) (.int .u64 (l1 : Int))).setCell (p := ⟨w4.heap.size, 3, none⟩) (.inr (Nat.le_refl _)) (.int .i64 k)); generalize World.setCell (World.setCell (World.setCell (w5.setCell _ _) _ _) _ _) _ _ = w6 at *; generalize w4.heap.size = g9 at *)
    | (have HB9 := Lib.hid (Blk.new w5 26 #[.bool s1, .int .u64 (h1 : Int), .int .u64 (l1 : Int), .int .i64 k]); have HF9 := Lib.hid (F5.out.alloc (.cells #[.bool s1, .int .u64 (h1 : Int), .int .u64 (l1 : Int), .int .i64 k] 26)); generalize w5.alloc _ = w6 at *; generalize w5.heap.size = g9 at *)
  all_goals
    have HZ9 := Lib.hid fun (W : World) (hf : Fr N0 w6 W) => (HB9.out.fr hf id).c4
    have HZ2 := Lib.hid fun (W : World) (hf : Fr N0 w6 W) => ((HA4.out.fr HF9.out id).fr hf id)
    clear hf5 F5 z0 z1 z2 hlt5 hlt7
    cases hv : validP ⟨⟨s1, h1, l1⟩, k⟩ with
    | true =>
      have k14 := fun w => c14 w hv
      have HV := Lib.hid hv
      clear c14 hv
      go_wp2_with (first
        | (go_at_call 14; refine (k14 _).mono ?_; rintro e w7 ⟨rfl, hf⟩; have F7 := Lib.hid hf; obtain ⟨z0, z1, z2, z3⟩ := HZ9.out _ F7.out)
        | (refine wpList_store_row rfl 26 _ _ rfl g2 _ rfl rfl _ _ (HZ2.out _ F7.out) rfl rfl (by simp [Value.oneCell']) ?_))
      refine ret_cell2 rfl rfl ((HZ2.out _ F7.out).row _) Tryd.underlying26 rfl ⟨?_, Fr.setRow (HF4.out.trans (HF9.out.trans F7.out)) (.inr HG2.out) _⟩
      unfold parsP
      rw [HV.out]
      rfl
    | false =>
      have k14 := fun w => c14 w hv
      have HV := Lib.hid hv
      clear c14 hv
      go_wp2_with (first
        | (go_at_call 14; refine (k14 _).mono ?_; rintro e w7 ⟨rfl, hf⟩; have F7 := Lib.hid hf; obtain ⟨z0, z1, z2, z3⟩ := HZ9.out _ F7.out)
        | (refine wpList_store_row rfl 26 _ _ rfl g2 _ rfl rfl _ _ (HZ2.out _ F7.out) rfl rfl (by simp [Value.oneCell']) ?_))
      refine ret_cell2 rfl rfl ((HZ2.out _ F7.out).row _) Tryd.underlying26 rfl ⟨?_, Fr.setRow (HF4.out.trans (HF9.out.trans F7.out)) (.inr HG2.out) _⟩
      unfold parsP
      rw [HV.out]
      rfl
end
end Go.Proofs.YtndjijadalkidaaDoor
