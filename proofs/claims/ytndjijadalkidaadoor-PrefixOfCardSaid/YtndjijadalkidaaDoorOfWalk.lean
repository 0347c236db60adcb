/- PrefixOf: what it answers. -/
import Derived.Test.YtndjijadalkidaaDoorIn
import Derived.Test.YtndjijadalkidaaDoorRq
namespace Go.Proofs.YtndjijadalkidaaDoor
open Go.Proofs Go.Shelf Go.RowKit
theorem beq_i (x : Int) : (x == x) = true := by simp
set_option maxHeartbeats 6400000 in
set_option maxRecDepth 100000 in
theorem of_key (a : Ad) (ha : a.ok) (k : Int) (hk1 : -9223372036854775808 ≤ k) (hk2 : k ≤ 9223372036854775807) (p : Px) (hp : p.ok) (W : World) (m : Int) (hm : Mx m W) (ht : T10 W) :
    Calls Tryd.prog 3 #[adV a, .int .i64 k, pxV p] W fun e w' => e = .returned (.bool true) ∧ Fr N0 W w' := by
  have ka := fun w => awake_any (w := w) m
  have kx := fun w => of_ (w := w) a ha k hk1 hk2
  have ky := fun w => rof_ (w := w) a ha k hk1 hk2
  have kb := fun w => bit_ (w := w) a ha k hk1 hk2
  have kr := fun w => rbit (w := w) a ha k hk1 hk2
  have kv := fun w => val_ (w := w) p hp
  have kq := fun w => rvalP (w := w) p hp
  obtain ⟨b, hb⟩ : ∃ b, b = bitA a k := ⟨_, rfl⟩
  obtain ⟨v, hv⟩ : ∃ v, v = validP p := ⟨_, rfl⟩
  obtain ⟨x, c, hx⟩ : ∃ x c, ofP a k = (x, c) := ⟨_, _, rfl⟩
  rw [hx] at kx ky
  rw [← hb] at kb kr
  rw [← hv] at kv kq
  clear hb hv hx ha hp
  have E := fun w => eql_px x x w
  rw [decide_eq_true rfl] at E
  have EG := fun X Y w => guard_px .eql X Y x x w
  obtain ⟨s1, h1, l1⟩ := a
  obtain ⟨⟨s2, h2, l2⟩, m2⟩ := p
  obtain ⟨⟨s3, h3, l3⟩, m3⟩ := x
  unfold pxV adV at *
  simp only at *
  obtain ⟨w, hw⟩ : ∃ w, w = W := ⟨_, rfl⟩
  rw [← hw] at hm ht ⊢
  clear hw
  go_enter Tryd.func3, Tryd.ntmps3
  go_wp2_with fail
  have HA1 := Lib.hid ((Blk.new w 24 #[Value.bool s1, Value.int .u64 (h1 : Int), Value.int .u64 (l1 : Int)]).alloc (.cells #[Value.bool s2, Value.int .u64 (h2 : Int), Value.int .u64 (l2 : Int), Value.int .i64 m2] 26))
  have HA2 := Lib.hid (Blk.alloc2 w (.cells #[Value.bool s1, Value.int .u64 (h1 : Int), Value.int .u64 (l1 : Int)] 24) 26 #[Value.bool s2, Value.int .u64 (h2 : Int), Value.int .u64 (l2 : Int), Value.int .i64 m2])
  have HF1 := Lib.hid (Fr.alloc (Fr.alloc (Fr.refl N0 w) (.cells #[Value.bool s1, Value.int .u64 (h1 : Int), Value.int .u64 (l1 : Int)] 24)) (.cells #[Value.bool s2, Value.int .u64 (h2 : Int), Value.int .u64 (l2 : Int), Value.int .i64 m2] 26))
  generalize World.alloc (w.alloc _) _ = w1 at *
  obtain ⟨g2, hg2⟩ : ∃ g2, g2 = w.heap.size + 1 := ⟨_, rfl⟩
  rw [← hg2] at HA2 ⊢
  have HG2 : Hid (w.heap.size ≤ g2) := Lib.hid (by omega)
  obtain ⟨g1, hg1⟩ : ∃ g1, g1 = w.heap.size := ⟨_, rfl⟩
  rw [← hg1] at HA1 ⊢
  have HG1 : Hid (w.heap.size ≤ g1) := Lib.hid (by omega)
  have HN1_2 : Hid (g1 ≠ g2) := Lib.hid (by omega)
  clear hg1 hg2
  have HZ1 : Hid (∀ W, Fr N0 w1 W → Blk W g1 24 #[Value.bool s1, Value.int .u64 (h1 : Int), Value.int .u64 (l1 : Int)]) := Lib.hid fun W hf => HA1.out.fr hf id
  have HZ2 : Hid (∀ W, Fr N0 w1 W → Blk W g2 26 #[Value.bool s2, Value.int .u64 (h2 : Int), Value.int .u64 (l2 : Int), Value.int .i64 m2]) := Lib.hid fun W hf => HA2.out.fr hf id
  have F := Lib.hid (Fr.refl N0 w1)
  have hm1 := hm.fr HF1.out
  have ht1 := ht.fr HF1.out
  obtain ⟨z1_0, z1_1, z1_2⟩ := (HZ1.out _ F.out).c3
  obtain ⟨z2_0, z2_1, z2_2, z2_3⟩ := (HZ2.out _ F.out).c4
  refine (ka _ hm1 ht1).mono ?_
  rintro e w2 ⟨rfl, hf⟩
  have F := Lib.hid (F.out.trans hf); obtain ⟨z1_0, z1_1, z1_2⟩ := (HZ1.out _ F.out).c3; obtain ⟨z2_0, z2_1, z2_2, z2_3⟩ := (HZ2.out _ F.out).c4
  clear ka hm ht hm1 ht1
  go_wp2_with fail
  refine (kx _).mono ?_
  rintro e w3 ⟨rfl, hf⟩
  have F := Lib.hid (F.out.trans hf); obtain ⟨z1_0, z1_1, z1_2⟩ := (HZ1.out _ F.out).c3; obtain ⟨z2_0, z2_1, z2_2, z2_3⟩ := (HZ2.out _ F.out).c4
  have hl1 := (HZ1.out _ F.out).lt
  have hl2 := (HZ2.out _ F.out).lt
  go_wp2_with fail
  have F4 := Lib.hid (F.out.alloc (.cells #[.bool s3, .int .u64 (h3 : Int), .int .u64 (l3 : Int), .int .i64 m3] 26))
  have B4 := Lib.hid (Blk.new w3 26 #[.bool s3, .int .u64 (h3 : Int), .int .u64 (l3 : Int), .int .i64 m3])
  clear F hl1 hl2
  have F := F4
  clear F4
  clear z1_0 z1_1 z1_2 z2_0 z2_1 z2_2 z2_3
  generalize w3.alloc _ = w4 at *
  generalize w3.heap.size = g4 at *
  obtain ⟨z1_0, z1_1, z1_2⟩ := (HZ1.out _ F.out).c3
  obtain ⟨z2_0, z2_1, z2_2, z2_3⟩ := (HZ2.out _ F.out).c4
  refine (ky _).mono ?_
  rintro e w5 ⟨rfl, hf⟩
  clear z1_0 z1_1 z1_2 z2_0 z2_1 z2_2 z2_3
  go_wp2_with fail
  have F6 := Lib.hid ((F.out.trans hf).alloc (.cells #[.bool s3, .int .u64 (h3 : Int), .int .u64 (l3 : Int), .int .i64 m3] 26))
  have B5 := Lib.hid (Blk.new w5 26 #[.bool s3, .int .u64 (h3 : Int), .int .u64 (l3 : Int), .int .i64 m3])
  have B4b := Lib.hid ((B4.out.fr hf id).alloc (.cells #[.bool s3, .int .u64 (h3 : Int), .int .u64 (l3 : Int), .int .i64 m3] 26))
  clear F B4 hf
  generalize w5.alloc _ = w6 at *
  generalize w5.heap.size = g5 at *
  have HFR := Lib.hid (HF1.out.trans F6.out)
  have u0 := fun x : Fam w6 => (HZ1.out x.w (F6.out.trans x.fr)).c3.1
  have u1 := fun x : Fam w6 => (HZ1.out x.w (F6.out.trans x.fr)).c3.2.1
  have u2 := fun x : Fam w6 => (HZ1.out x.w (F6.out.trans x.fr)).c3.2.2
  have v0 := fun x : Fam w6 => (HZ2.out x.w (F6.out.trans x.fr)).c4.1
  have v1 := fun x : Fam w6 => (HZ2.out x.w (F6.out.trans x.fr)).c4.2.1
  have v2 := fun x : Fam w6 => (HZ2.out x.w (F6.out.trans x.fr)).c4.2.2.1
  have v3 := fun x : Fam w6 => (HZ2.out x.w (F6.out.trans x.fr)).c4.2.2.2
  have a0 := fun x : Fam w6 => (B4b.out.fr x.fr id).c4.1
  have a1 := fun x : Fam w6 => (B4b.out.fr x.fr id).c4.2.1
  have a2 := fun x : Fam w6 => (B4b.out.fr x.fr id).c4.2.2.1
  have a3 := fun x : Fam w6 => (B4b.out.fr x.fr id).c4.2.2.2
  have b0 := fun x : Fam w6 => (B5.out.fr x.fr id).c4.1
  have b1 := fun x : Fam w6 => (B5.out.fr x.fr id).c4.2.1
  have b2 := fun x : Fam w6 => (B5.out.fr x.fr id).c4.2.2.1
  have b3 := fun x : Fam w6 => (B5.out.fr x.fr id).c4.2.2.2
  clear kx ky
  refine wp_region_fam (by kernel_rfl) (by kernel_rfl) ?_
  repeat (go_big_quiet_step ((first
    | (go_at_call 12; exact fam_call (kb _))
    | (go_at_call 13; exact fam_call (kr _))
    | (go_at_call 14; exact fam_call (kv _))
    | (go_at_call 15; exact fam_call (kq _)))))
  first | refine wpQuiet_nil ?_ | (go_big_quiet_want; go_big_quiet_op; done)
  rintro _ ⟨xq, rfl⟩
  go_wp2_with fail
  go_ret
  exact ⟨rfl, HFR.out.trans xq.fr⟩
theorem of_walk (W : World) (hS : W.ShapedOpen Tryd.prog) (ht : T10 W) (A : Array Value) (ra : Rd Tryd.prog W 24 A.toList) (k : Int) (hk1 : -9223372036854775808 ≤ k) (hk2 : k ≤ 9223372036854775807) (C : Array Value) (rc : Rd Tryd.prog W 26 C.toList) :
    Calls Tryd.prog 3 #[.agg A, .int .i64 k, .agg C] W fun e w' => e = .returned (.bool true) ∧ Below W.heap.size W w' := by
  obtain ⟨a, ea, ha⟩ := rd_ad ra
  obtain ⟨p, ep, hp⟩ := rd_px rc
  rw [ad_arr ea, px_arr ep]
  obtain ⟨m, hm⟩ := mx_of hS
  exact (of_key a ha k hk1 hk2 p hp W m hm ht).mono fun e w' ⟨he, hf⟩ => ⟨he, hf.below (Nat.le_refl _) fun _ _ h => h.elim⟩
end Go.Proofs.YtndjijadalkidaaDoor
