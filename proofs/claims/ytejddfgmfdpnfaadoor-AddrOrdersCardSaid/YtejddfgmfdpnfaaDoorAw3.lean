/- awake of chapter 3: the chapter's examples hold. -/
import Derived.Test.YtejddfgmfdpnfaaDoorIn3
import Derived.Test.YtejddfgmfdpnfaaDoorEv3
import Derived.Test.YtejddfgmfdpnfaaDoorO4
namespace Go.Proofs.YtejddfgmfdpnfaaDoor
open Go.Proofs Go.Shelf Go.RowKit
abbrev cA : Array Value := #[.bool false, .int .u64 0, .int .u64 167772161]
abbrev cB : Array Value := #[.bool true, .int .u64 0, .int .u64 1]
abbrev cC : Array Value := #[.bool false, .int .u64 0, .int .u64 0]
section
variable {w : World}
theorem aw_a (m : Int) (hm : Mx m w) (hsy : Sy w) : Calls Tryd.prog 11 #[.string ⟨#[49, 48, 46, 48, 46, 48, 46, 49]⟩] w fun e w' => e = .returned (.tuple #[.agg #[.bool false, .int .u64 0, .int .u64 167772161], .int .i64 0]) ∧ Fr N0 w w' := by
  have h := parse_any xa m (by decide) hm hsy
  rw [ev_a] at h
  exact h
theorem aw_b (m : Int) (hm : Mx m w) (hsy : Sy w) : Calls Tryd.prog 11 #[.string ⟨#[48, 58, 48, 58, 48, 58, 48, 58, 48, 58, 48, 58, 48, 58, 49]⟩] w fun e w' => e = .returned (.tuple #[.agg #[.bool true, .int .u64 0, .int .u64 1], .int .i64 0]) ∧ Fr N0 w w' := by
  have h := parse_any xb m (by decide) hm hsy
  rw [ev_b] at h
  exact h
theorem aw_c (m : Int) (hm : Mx m w) (hsy : Sy w) : Calls Tryd.prog 11 #[.string ⟨#[49, 58, 50, 58, 51, 58, 52, 58, 53, 58, 54, 58, 55, 58, 56, 58, 58]⟩] w fun e w' => e = .returned (.tuple #[.agg #[.bool false, .int .u64 0, .int .u64 0], .int .i64 20]) ∧ Fr N0 w w' := by
  have h := parse_any xc m (by decide) hm hsy
  rw [ev_c] at h
  exact h
theorem aw_pb (hd : D4 w) : Calls Tryd.prog 16 #[.agg #[.bool true, .int .u64 0, .int .u64 1]] w fun e w' => e = .returned (.string ⟨#[58, 58, 49]⟩) ∧ Fr N0 w w' := by
  have h := prt6 (w := w) 0 1 hd
  rw [ev_p1] at h
  exact h
theorem aw_pc (hd : D4 w) : Calls Tryd.prog 16 #[.agg #[.bool true, .int .u64 65536, .int .u64 65536]] w fun e w' => e = .returned (.string ⟨#[48, 58, 48, 58, 49, 58, 58, 49, 58, 48]⟩) ∧ Fr N0 w w' := by
  have h := prt6 (w := w) 65536 65536 hd
  rw [ev_p2] at h
  exact h
theorem aw_v : Calls Tryd.prog 18 #[.agg #[.bool false, .int .u64 0, .int .u64 167772161]] w fun e w' => e = .returned (.bool true) ∧ Fr N0 w w' := aval (w := w) ⟨false, 0, 167772161⟩
theorem aw_o (g c : Nat) (tg : TypeId) (hB : Blk w g tg #[.int .u8 10, .int .u8 0, .int .u8 0, .int .u8 1]) : Calls Tryd.prog 24 #[.slice (some ⟨g, 0, none⟩) 4 c] w fun e w' => e = .returned (.tuple #[.agg #[.bool false, .int .u64 0, .int .u64 167772161], .int .i64 0]) ∧ Fr N0 w w' := of4 (w := w) g c [10, 0, 0, 1] rfl (fun i x h => by have := hB.cell i; rw [this]; match i, h with | 0, h => cases h; rfl | 1, h => cases h; rfl | 2, h => cases h; rfl | 3, h => cases h; rfl) (by decide)
theorem aw_l : Calls Tryd.prog 26 #[.agg #[.bool false, .int .u64 0, .int .u64 167772161], .agg #[.bool true, .int .u64 0, .int .u64 1]] w fun e w' => e = .returned (.bool true) ∧ Fr N0 w w' := by
  have h := ales_ (w := w) ⟨false, 0, 167772161⟩ ⟨true, 0, 1⟩ ⟨by decide, by decide⟩ ⟨by decide, by decide⟩
  rw [show ltA ⟨false, 0, 167772161⟩ ⟨true, 0, 1⟩ = true by decide +kernel] at h
  exact h
theorem aw_by : Calls Tryd.prog 13 #[.agg #[.bool true, .int .u64 0, .int .u64 1]] w fun e w' => ∃ A c, e = .returned (.slice A 16 c) ∧ Fr N0 w w' := by
  refine (byt_ (w := w) ⟨true, 0, 1⟩ ⟨by decide, by decide⟩).mono ?_
  rintro e w' ⟨v, rfl, A, c, rfl, _, _, hF⟩
  exact ⟨A, c, rfl, hF⟩
set_option maxHeartbeats 3200000 in
set_option maxRecDepth 100000 in
theorem awake3 (m : Int) (hm : Mx m w) (hsy : Sy w) (hd : D4 w) : Calls Tryd.prog 10 #[] w fun e w' => e = .returned (.bool true) ∧ Fr N0 w w' := by
  have e1 : ∀ (w : World), (binOp .eql 25 (.agg #[.bool false, .int .u64 0, .int .u64 167772161]) (.agg #[.bool false, .int .u64 0, .int .u64 167772161])).run Tryd.prog w = .ok (.bool true) w := eql_ad ⟨false, 0, 167772161⟩ ⟨false, 0, 167772161⟩
  have e2 : ∀ (w : World), (binOp .eql 25 (.agg #[.bool true, .int .u64 0, .int .u64 1]) (.agg #[.bool true, .int .u64 0, .int .u64 1])).run Tryd.prog w = .ok (.bool true) w := eql_ad ⟨true, 0, 1⟩ ⟨true, 0, 1⟩
  have e3 : ∀ (w : World), (binOp .eql 25 (.agg #[.bool true, .int .u64 18375249429625044992, .int .u64 8573157379]) (.agg #[.bool true, .int .u64 18375249429625044992, .int .u64 8573157379])).run Tryd.prog w = .ok (.bool true) w := eql_ad ⟨true, 18375249429625044992, 8573157379⟩ ⟨true, 18375249429625044992, 8573157379⟩
  have q1 := fun X Y W => guard_ad .eql X Y ⟨false, 0, 167772161⟩ ⟨false, 0, 167772161⟩ W
  have q2 := fun X Y W => guard_ad .eql X Y ⟨true, 0, 1⟩ ⟨true, 0, 1⟩ W
  have q3 := fun X Y W => guard_ad .eql X Y ⟨true, 18375249429625044992, 8573157379⟩ ⟨true, 18375249429625044992, 8573157379⟩ W
  unfold adV at q1 q2 q3
  go_enter Tryd.func10, Tryd.ntmps10
  go_wp2_with fail
  refine (aw_a m hm hsy).mono ?_
  rintro e w2 ⟨rfl, hf2⟩
  go_wp2_with fail
  have F1 := Lib.hid (hf2.alloc (.cells cA 25))
  have B1 := Lib.hid (Blk.new w2 25 cA)
  generalize w2.alloc _ = w3 at *
  generalize w2.heap.size = g1 at *
  refine (aw_b m (hm.fr F1.out) (hsy.fr F1.out)).mono ?_
  rintro e w4 ⟨rfl, hf4⟩
  go_wp2_with fail
  have F2 := Lib.hid ((F1.out.trans hf4).alloc (.cells cB 25))
  have B2 := Lib.hid (Blk.new w4 25 cB)
  have B1b := Lib.hid ((B1.out.fr hf4 id).alloc (.cells cB 25))
  clear B1 hf2 hf4 F1
  generalize w4.alloc _ = w5 at *
  generalize w4.heap.size = g3 at *
  refine (aw_c m (hm.fr F2.out) (hsy.fr F2.out)).mono ?_
  rintro e w6 ⟨rfl, hf6⟩
  have F3 := Lib.hid ((F2.out.trans hf6).alloc (.cells cC 25))
  have Z1 := Lib.hid fun (W : World) (hf : Fr N0 (w6.alloc (.cells cC 25)) W) => (((B1b.out.fr hf6 id).alloc (.cells cC 25)).fr hf id).c3
  have Z2 := Lib.hid fun (W : World) (hf : Fr N0 (w6.alloc (.cells cC 25)) W) => (((B2.out.fr hf6 id).alloc (.cells cC 25)).fr hf id).c3
  have HD := Lib.hid hd
  clear B1b B2 hm hsy hd hf6 F2
  obtain ⟨a0, a1, a2⟩ := Z1.out _ (Fr.refl _ _)
  obtain ⟨b0, b1, b2⟩ := Z2.out _ (Fr.refl _ _)
  go_wp2_with fail
  generalize World.alloc w6 _ = w7 at *
  have F := Lib.hid (Fr.refl N0 w7)
  go_wp2_with (first
    | (go_at_call 16; first
      | ((with_reducible refine (aw_pb (HD.out.fr (F3.out.trans F.out))).mono ?_); rintro e w8 ⟨rfl, hf⟩; have F := Lib.hid (F.out.trans hf); clear a0 a1 a2 b0 b1 b2 hf; obtain ⟨a0, a1, a2⟩ := Z1.out _ F.out; obtain ⟨b0, b1, b2⟩ := Z2.out _ F.out)
      | ((with_reducible refine (aw_pc (HD.out.fr (F3.out.trans F.out))).mono ?_); rintro e w8 ⟨rfl, hf⟩; have F := Lib.hid (F.out.trans hf); clear a0 a1 a2 b0 b1 b2 hf; obtain ⟨a0, a1, a2⟩ := Z1.out _ F.out; obtain ⟨b0, b1, b2⟩ := Z2.out _ F.out))
    | (go_at_call 18; refine aw_v.mono ?_; rintro e w9 ⟨rfl, hf⟩; have F := Lib.hid (F.out.trans hf); clear a0 a1 a2 b0 b1 b2 hf; obtain ⟨a0, a1, a2⟩ := Z1.out _ F.out; obtain ⟨b0, b1, b2⟩ := Z2.out _ F.out))
  refine (aw_o _ _ 5 (Blk.new _ _ _)).mono ?_
  rintro e w10 ⟨rfl, hf⟩
  have F := Lib.hid (((F.out.alloc (.cells #[.int .u8 10, .int .u8 0, .int .u8 0, .int .u8 1] 5)).trans hf).alloc (.cells cA 25))
  have F9 := Lib.hid (Fr.refl N0 (w10.alloc (.cells cA 25)))
  have Z9 := Lib.hid fun (W : World) (hf : Fr N0 (w10.alloc (.cells cA 25)) W) => ((Blk.new w10 25 cA).fr hf id).c3
  clear a0 a1 a2 b0 b1 b2 hf
  obtain ⟨a0, a1, a2⟩ := Z1.out _ F.out
  obtain ⟨b0, b1, b2⟩ := Z2.out _ F.out
  obtain ⟨d0, d1, d2⟩ := Z9.out _ F9.out
  go_wp2_with (first
    | (go_at_call 13; refine aw_by.mono ?_; rintro e w11 ⟨A, c, rfl, hf⟩; have F := Lib.hid (F.out.trans hf); have F9 := Lib.hid (F9.out.trans hf); clear a0 a1 a2 b0 b1 b2 d0 d1 d2 hf; obtain ⟨a0, a1, a2⟩ := Z1.out _ F.out; obtain ⟨b0, b1, b2⟩ := Z2.out _ F.out; obtain ⟨d0, d1, d2⟩ := Z9.out _ F9.out)
    | (go_at_call 26; refine aw_l.mono ?_; rintro e w12 ⟨rfl, hf⟩; have F := Lib.hid (F.out.trans hf); have F9 := Lib.hid (F9.out.trans hf); clear a0 a1 a2 b0 b1 b2 d0 d1 d2 hf; obtain ⟨a0, a1, a2⟩ := Z1.out _ F.out; obtain ⟨b0, b1, b2⟩ := Z2.out _ F.out; obtain ⟨d0, d1, d2⟩ := Z9.out _ F9.out)
    | (go_at_call 20; refine cls1.mono ?_; rintro e w13 ⟨rfl, hf⟩; have F := Lib.hid (F.out.trans hf); have F9 := Lib.hid (F9.out.trans hf); clear a0 a1 a2 b0 b1 b2 d0 d1 d2 hf; obtain ⟨a0, a1, a2⟩ := Z1.out _ F.out; obtain ⟨b0, b1, b2⟩ := Z2.out _ F.out; obtain ⟨d0, d1, d2⟩ := Z9.out _ F9.out)
    | (go_at_call 22; refine sol3.mono ?_; rintro e w14 ⟨rfl, hf⟩; have F := Lib.hid (F.out.trans hf); have F9 := Lib.hid (F9.out.trans hf); clear a0 a1 a2 b0 b1 b2 d0 d1 d2 hf; obtain ⟨a0, a1, a2⟩ := Z1.out _ F.out; obtain ⟨b0, b1, b2⟩ := Z2.out _ F.out; obtain ⟨d0, d1, d2⟩ := Z9.out _ F9.out))
  go_ret
  exact ⟨rfl, F3.out.trans F.out⟩
end
end Go.Proofs.YtejddfgmfdpnfaaDoor
