/- awake: the chapter's examples hold. -/
import Derived.Test.YtndjijadalkidaaDoorAc
import Derived.Test.YtndjijadalkidaaDoorBi
namespace Go.Proofs.YtndjijadalkidaaDoor
open Go.Proofs Go.Shelf Go.RowKit
def ninX : Px := ⟨⟨false, 0, 167772160⟩, 9⟩
def ninY : Px := ⟨⟨false, 0, 176160768⟩, 9⟩
theorem ten_ok : (tenP 8).ok := ⟨⟨by decide, by decide⟩, by decide, by decide⟩
theorem ninX_ok : ninX.ok := ⟨⟨by decide, by decide⟩, by decide, by decide⟩
theorem ninY_ok : ninY.ok := ⟨⟨by decide, by decide⟩, by decide, by decide⟩
abbrev c10 (m : Int) : Value := .agg #[.bool false, .int .u64 0, .int .u64 167772160, .int .i64 m]
section
variable {w : World}
theorem aw_of : Calls Tryd.prog 10 #[.agg #[.bool false, .int .u64 0, .int .u64 167772161], .int .i64 8] w fun e w' => e = .returned (.tuple #[.agg #[.bool false, .int .u64 0, .int .u64 167772160, .int .i64 8], .int .i64 0]) ∧ Fr N0 w w' := by
  have h := of_ (w := w) ⟨false, 0, 167772161⟩ ⟨by decide, by decide⟩ 8 (by decide) (by decide)
  rw [show ofP ⟨false, 0, 167772161⟩ 8 = (tenP 8, 0) by decide +kernel] at h
  exact h
theorem aw_ten (m : Int) : Calls Tryd.prog 28 #[.int .i64 m] w fun e w' => e = .returned (.agg #[.bool false, .int .u64 0, .int .u64 167772160, .int .i64 m]) ∧ Fr N0 w w' := ten_ m
theorem aw_halves : Calls Tryd.prog 24 #[.agg #[.bool false, .int .u64 0, .int .u64 167772160, .int .i64 8]] w fun e w' => e = .returned (.tuple #[.agg #[.bool false, .int .u64 0, .int .u64 167772160, .int .i64 9], .agg #[.bool false, .int .u64 0, .int .u64 176160768, .int .i64 9], .int .i64 0]) ∧ Fr N0 w w' := by
  have h := halv_ (w := w) (tenP 8) ten_ok
  rw [show halvesP (tenP 8) = (ninX, ninY, 0) by decide +kernel] at h
  exact h
theorem aw_parse0 (m : Int) (hm : Mx m w) : Calls Tryd.prog 23 #[.string ⟨#[49, 48, 46, 48, 46, 48, 46, 48, 47, 56]⟩] w fun e w' => e = .returned (.tuple #[.agg #[.bool false, .int .u64 0, .int .u64 167772160, .int .i64 8], .int .i64 0]) ∧ Fr N0 w w' := parse_s0 m hm
theorem aw_parse1 (m : Int) (hm : Mx m w) : Calls Tryd.prog 23 #[.string ⟨#[49, 48, 46, 48, 46, 48, 46, 49, 47, 56]⟩] w fun e w' => e = .returned (.tuple #[.agg #[.bool false, .int .u64 0, .int .u64 0, .int .i64 0], .int .i64 30]) ∧ Fr N0 w w' := parse_s1 m hm
theorem aw_print (htab : T10 w) : Calls Tryd.prog 22 #[.agg #[.bool false, .int .u64 0, .int .u64 167772160, .int .i64 8]] w fun e w' => e = .returned (.string ⟨#[49, 48, 46, 48, 46, 48, 46, 48, 47, 56]⟩) ∧ Fr N0 w w' := print_s0 htab
theorem aw_valid : Calls Tryd.prog 14 #[.agg #[.bool false, .int .u64 0, .int .u64 167772160, .int .i64 8]] w fun e w' => e = .returned (.bool true) ∧ Fr N0 w w' := by
  have h := val_ (w := w) (tenP 8) ten_ok
  rw [show validP (tenP 8) = true by decide +kernel] at h
  exact h
theorem aw_holds : Calls Tryd.prog 16 #[.agg #[.bool false, .int .u64 0, .int .u64 167772160, .int .i64 8], .agg #[.bool false, .int .u64 0, .int .u64 167772161]] w fun e w' => e = .returned (.bool true) ∧ Fr N0 w w' := by
  have h := hol_ (w := w) (tenP 8) ⟨false, 0, 167772161⟩ ten_ok ⟨by decide, by decide⟩
  rw [show holdsP (tenP 8) ⟨false, 0, 167772161⟩ = true by decide +kernel] at h
  exact h
theorem aw_covers : Calls Tryd.prog 18 #[.agg #[.bool false, .int .u64 0, .int .u64 167772160, .int .i64 8], .agg #[.bool false, .int .u64 0, .int .u64 167772160, .int .i64 9]] w fun e w' => e = .returned (.bool true) ∧ Fr N0 w w' := by
  have h := cov_ (w := w) (tenP 8) ninX ten_ok ninX_ok
  rw [show coversP (tenP 8) ninX = true by decide +kernel] at h
  exact h
theorem aw_bit : Calls Tryd.prog 12 #[.agg #[.bool false, .int .u64 0, .int .u64 1], .int .i64 31] w fun e w' => e = .returned (.int .i64 1) ∧ Fr N0 w w' := by
  have h := bit_ (w := w) ⟨false, 0, 1⟩ ⟨by decide, by decide⟩ 31 (by decide) (by decide)
  rw [show bitA ⟨false, 0, 1⟩ 31 = 1 by decide +kernel] at h
  exact h
theorem aw_common : Calls Tryd.prog 20 #[.agg #[.bool false, .int .u64 0, .int .u64 167772160], .agg #[.bool false, .int .u64 0, .int .u64 176160768]] w fun e w' => e = .returned (.int .i64 8) ∧ Fr N0 w w' := by
  refine (com_ (w := w) ninX.ad ninY.ad ninX_ok.ad ninY_ok.ad).mono ?_
  rintro e w' ⟨r, rfl, hr, hf⟩
  have h8 : CmR ninX.ad ninY.ad 8 := by
    unfold CmR
    rw [if_pos (by decide +kernel)]
    exact ⟨8, rfl, by decide +kernel, by decide +kernel, .inr (by decide +kernel)⟩
  rw [hr.eq h8]
  exact ⟨rfl, hf⟩
theorem aw_less : Calls Tryd.prog 26 #[.agg #[.bool false, .int .u64 0, .int .u64 167772160, .int .i64 8], .agg #[.bool false, .int .u64 0, .int .u64 167772160, .int .i64 9]] w fun e w' => e = .returned (.bool true) ∧ Fr N0 w w' := by
  have h := les_ (w := w) (tenP 8) ninX ten_ok ninX_ok
  rw [show ltP (tenP 8) ninX = true by decide +kernel] at h
  exact h
theorem eql_lit (x y : Px) (b : Bool) (h : decide (x = y) = b) (W : World) : (binOp .eql 26 (.agg #[.bool x.ad.six, .int .u64 (x.ad.hi : Int), .int .u64 (x.ad.lo : Int), .int .i64 x.bits]) (.agg #[.bool y.ad.six, .int .u64 (y.ad.hi : Int), .int .u64 (y.ad.lo : Int), .int .i64 y.bits])).run Tryd.prog W = .ok (.bool b) W := h ▸ eql_px x y W
set_option maxHeartbeats 1600000 in
set_option maxRecDepth 100000 in
theorem awake_any (m : Int) (hm : Mx m w) (htab : T10 w) : Calls Tryd.prog 9 #[] w fun e w' => e = .returned (.bool true) ∧ Fr N0 w w' := by
  go_enter Tryd.func9, Tryd.ntmps9
  go_wp2_with (first
    | (go_at_call 10; refine aw_of.mono ?_; rintro e w2 ⟨rfl, hf2⟩))
  have F1 := Lib.hid (hf2.alloc (.cells #[.bool false, .int .u64 0, .int .u64 167772160, .int .i64 8] 26))
  have B1 := Lib.hid (Blk.new w2 26 #[.bool false, .int .u64 0, .int .u64 167772160, .int .i64 8])
  generalize w2.alloc _ = w3 at *
  generalize w2.heap.size = g1 at *
  refine (aw_ten 8).mono ?_
  rintro e w4 ⟨rfl, hf4⟩
  go_wp2_with fail
  refine aw_halves.mono ?_
  rintro e w5 ⟨rfl, hf5⟩
  go_wp2_with fail
  have F5 := Lib.hid (((F1.out.trans hf4).trans hf5).alloc (.cells #[.bool false, .int .u64 0, .int .u64 167772160, .int .i64 9] 26))
  have F6 := Lib.hid (F5.out.alloc (.cells #[.bool false, .int .u64 0, .int .u64 176160768, .int .i64 9] 26))
  have B1b := Lib.hid ((((B1.out.fr hf4 id).fr hf5 id).alloc (.cells #[.bool false, .int .u64 0, .int .u64 167772160, .int .i64 9] 26)).alloc (.cells #[.bool false, .int .u64 0, .int .u64 176160768, .int .i64 9] 26))
  have B3 := Lib.hid ((Blk.new w5 26 #[.bool false, .int .u64 0, .int .u64 167772160, .int .i64 9]).alloc (.cells #[.bool false, .int .u64 0, .int .u64 176160768, .int .i64 9] 26))
  have B4 := Lib.hid (Blk.alloc2 w5 (.cells #[.bool false, .int .u64 0, .int .u64 167772160, .int .i64 9] 26) 26 #[.bool false, .int .u64 0, .int .u64 176160768, .int .i64 9])
  clear B1 F5 hf4 hf5
  generalize World.alloc (w5.alloc _) _ = w6 at *
  generalize w5.heap.size + 1 = g4 at *
  generalize w5.heap.size = g3 at *
  refine (aw_parse0 m (hm.fr F6.out)).mono ?_
  rintro e w7 ⟨rfl, hf7⟩
  go_wp2_with fail
  have F7 := Lib.hid ((F6.out.trans hf7).alloc (.cells #[.bool false, .int .u64 0, .int .u64 167772160, .int .i64 8] 26))
  have B6 := Lib.hid (Blk.new w7 26 #[.bool false, .int .u64 0, .int .u64 167772160, .int .i64 8])
  have B1c := Lib.hid ((B1b.out.fr hf7 id).alloc (.cells #[.bool false, .int .u64 0, .int .u64 167772160, .int .i64 8] 26))
  have B3c := Lib.hid ((B3.out.fr hf7 id).alloc (.cells #[.bool false, .int .u64 0, .int .u64 167772160, .int .i64 8] 26))
  have B4c := Lib.hid ((B4.out.fr hf7 id).alloc (.cells #[.bool false, .int .u64 0, .int .u64 167772160, .int .i64 8] 26))
  clear B1b B3 B4 hf7
  generalize w7.alloc _ = w8 at *
  generalize w7.heap.size = g6 at *
  refine (aw_parse1 m (hm.fr F7.out)).mono ?_
  rintro e w9 ⟨rfl, hf9⟩
  go_wp2_with fail
  have F9 := Lib.hid ((F7.out.trans hf9).alloc (.cells #[.bool false, .int .u64 0, .int .u64 0, .int .i64 0] 26))
  have B6d := Lib.hid ((B6.out.fr hf9 id).alloc (.cells #[.bool false, .int .u64 0, .int .u64 0, .int .i64 0] 26))
  have B1d := Lib.hid ((B1c.out.fr hf9 id).alloc (.cells #[.bool false, .int .u64 0, .int .u64 0, .int .i64 0] 26))
  have B3d := Lib.hid ((B3c.out.fr hf9 id).alloc (.cells #[.bool false, .int .u64 0, .int .u64 0, .int .i64 0] 26))
  have B4d := Lib.hid ((B4c.out.fr hf9 id).alloc (.cells #[.bool false, .int .u64 0, .int .u64 0, .int .i64 0] 26))
  clear B1c B3c B4c B6 hf9
  generalize w9.alloc _ = w10 at *
  generalize w9.heap.size = g8 at *
  have Z1 := Lib.hid fun (W : World) (hf : Fr N0 w10 W) => (B1d.out.fr hf id).c4
  have Z3 := Lib.hid fun (W : World) (hf : Fr N0 w10 W) => (B3d.out.fr hf id).c4
  have Z4 := Lib.hid fun (W : World) (hf : Fr N0 w10 W) => (B4d.out.fr hf id).c4
  have Z6 := Lib.hid fun (W : World) (hf : Fr N0 w10 W) => (B6d.out.fr hf id).c4
  have HM := Lib.hid hm
  have HT := Lib.hid fun (W : World) (hf : Fr N0 w10 W) => htab.fr (F9.out.trans hf)
  clear B1d B3d B4d B6d hm htab hf2 F1 F6 F7
  have a0 := fun x : Fam w10 => (Z1.out x.w x.fr).1
  have a1 := fun x : Fam w10 => (Z1.out x.w x.fr).2.1
  have a2 := fun x : Fam w10 => (Z1.out x.w x.fr).2.2.1
  have a3 := fun x : Fam w10 => (Z1.out x.w x.fr).2.2.2
  have b0 := fun x : Fam w10 => (Z3.out x.w x.fr).1
  have b1 := fun x : Fam w10 => (Z3.out x.w x.fr).2.1
  have b2 := fun x : Fam w10 => (Z3.out x.w x.fr).2.2.1
  have b3 := fun x : Fam w10 => (Z3.out x.w x.fr).2.2.2
  have d0 := fun x : Fam w10 => (Z4.out x.w x.fr).1
  have d1 := fun x : Fam w10 => (Z4.out x.w x.fr).2.1
  have d2 := fun x : Fam w10 => (Z4.out x.w x.fr).2.2.1
  have d3 := fun x : Fam w10 => (Z4.out x.w x.fr).2.2.2
  have e8 := eql_lit (tenP 8) (tenP 8) true (by decide +kernel)
  have e9 := eql_lit ninX ninX true (by decide +kernel)
  have eY := eql_lit ninY ninY true (by decide +kernel)
  have q8 := fun X Y W => guard_px .eql X Y (tenP 8) (tenP 8) W
  have q9 := fun X Y W => guard_px .eql X Y ninX ninX W
  have qY := fun X Y W => guard_px .eql X Y ninY ninY W
  change ∀ W, (binOp .eql 26 (.agg #[.bool false, .int .u64 0, .int .u64 167772160, .int .i64 8]) (.agg #[.bool false, .int .u64 0, .int .u64 167772160, .int .i64 8])).run Tryd.prog W = .ok (.bool true) W at e8
  change ∀ W, (binOp .eql 26 (.agg #[.bool false, .int .u64 0, .int .u64 167772160, .int .i64 9]) (.agg #[.bool false, .int .u64 0, .int .u64 167772160, .int .i64 9])).run Tryd.prog W = .ok (.bool true) W at e9
  change ∀ W, (binOp .eql 26 (.agg #[.bool false, .int .u64 0, .int .u64 176160768, .int .i64 9]) (.agg #[.bool false, .int .u64 0, .int .u64 176160768, .int .i64 9])).run Tryd.prog W = .ok (.bool true) W at eY
  change ∀ X Y W, (eqGuard .eql 26 X Y (.agg #[.bool false, .int .u64 0, .int .u64 167772160, .int .i64 8]) (.agg #[.bool false, .int .u64 0, .int .u64 167772160, .int .i64 8])).run Tryd.prog W = .ok () W at q8
  change ∀ X Y W, (eqGuard .eql 26 X Y (.agg #[.bool false, .int .u64 0, .int .u64 167772160, .int .i64 9]) (.agg #[.bool false, .int .u64 0, .int .u64 167772160, .int .i64 9])).run Tryd.prog W = .ok () W at q9
  change ∀ X Y W, (eqGuard .eql 26 X Y (.agg #[.bool false, .int .u64 0, .int .u64 176160768, .int .i64 9]) (.agg #[.bool false, .int .u64 0, .int .u64 176160768, .int .i64 9])).run Tryd.prog W = .ok () W at qY
  refine wp_region_fam (by kernel_rfl) (by kernel_rfl) ?_
  repeat (go_big_quiet_step ((go_at_call 28; exact fam_call (aw_ten _))))
  first | refine wpQuiet_nil ?_ | (go_big_quiet_want; go_big_quiet_op; done)
  rintro _ ⟨xq, rfl⟩
  clear a0 a1 a2 a3 b0 b1 b2 b3 d0 d1 d2 d3
  have F := Lib.hid xq.fr
  obtain ⟨a0, a1, a2, a3⟩ := Z1.out _ F.out; obtain ⟨b0, b1, b2, b3⟩ := Z3.out _ F.out; obtain ⟨d0, d1, d2, d3⟩ := Z4.out _ F.out; obtain ⟨k0, k1, k2, k3⟩ := Z6.out _ F.out
  go_wp2_with (first
    | (go_at_call 22; refine (aw_print (HT.out _ F.out)).mono ?_; rintro e wz ⟨rfl, hf⟩; have F := Lib.hid (F.out.trans hf); obtain ⟨a0, a1, a2, a3⟩ := Z1.out _ F.out; obtain ⟨b0, b1, b2, b3⟩ := Z3.out _ F.out; obtain ⟨d0, d1, d2, d3⟩ := Z4.out _ F.out; obtain ⟨k0, k1, k2, k3⟩ := Z6.out _ F.out)
    | (go_at_call 14; refine aw_valid.mono ?_; rintro e wz ⟨rfl, hf⟩; have F := Lib.hid (F.out.trans hf); obtain ⟨a0, a1, a2, a3⟩ := Z1.out _ F.out; obtain ⟨b0, b1, b2, b3⟩ := Z3.out _ F.out; obtain ⟨d0, d1, d2, d3⟩ := Z4.out _ F.out; obtain ⟨k0, k1, k2, k3⟩ := Z6.out _ F.out)
    | (go_at_call 16; refine aw_holds.mono ?_; rintro e wz ⟨rfl, hf⟩; have F := Lib.hid (F.out.trans hf); obtain ⟨a0, a1, a2, a3⟩ := Z1.out _ F.out; obtain ⟨b0, b1, b2, b3⟩ := Z3.out _ F.out; obtain ⟨d0, d1, d2, d3⟩ := Z4.out _ F.out; obtain ⟨k0, k1, k2, k3⟩ := Z6.out _ F.out)
    | (go_at_call 18; refine aw_covers.mono ?_; rintro e wz ⟨rfl, hf⟩; have F := Lib.hid (F.out.trans hf); obtain ⟨a0, a1, a2, a3⟩ := Z1.out _ F.out; obtain ⟨b0, b1, b2, b3⟩ := Z3.out _ F.out; obtain ⟨d0, d1, d2, d3⟩ := Z4.out _ F.out; obtain ⟨k0, k1, k2, k3⟩ := Z6.out _ F.out)
    | (go_at_call 12; refine aw_bit.mono ?_; rintro e wz ⟨rfl, hf⟩; have F := Lib.hid (F.out.trans hf); obtain ⟨a0, a1, a2, a3⟩ := Z1.out _ F.out; obtain ⟨b0, b1, b2, b3⟩ := Z3.out _ F.out; obtain ⟨d0, d1, d2, d3⟩ := Z4.out _ F.out; obtain ⟨k0, k1, k2, k3⟩ := Z6.out _ F.out)
    | (go_at_call 20; refine aw_common.mono ?_; rintro e wz ⟨rfl, hf⟩; have F := Lib.hid (F.out.trans hf); obtain ⟨a0, a1, a2, a3⟩ := Z1.out _ F.out; obtain ⟨b0, b1, b2, b3⟩ := Z3.out _ F.out; obtain ⟨d0, d1, d2, d3⟩ := Z4.out _ F.out; obtain ⟨k0, k1, k2, k3⟩ := Z6.out _ F.out)
    | (go_at_call 26; refine aw_less.mono ?_; rintro e wz ⟨rfl, hf⟩; have F := Lib.hid (F.out.trans hf); obtain ⟨a0, a1, a2, a3⟩ := Z1.out _ F.out; obtain ⟨b0, b1, b2, b3⟩ := Z3.out _ F.out; obtain ⟨d0, d1, d2, d3⟩ := Z4.out _ F.out; obtain ⟨k0, k1, k2, k3⟩ := Z6.out _ F.out))
  go_ret
  exact ⟨rfl, F9.out.trans F.out⟩
end
end Go.Proofs.YtndjijadalkidaaDoor
