/- PrefixHolds: what it answers. -/
import Derived.Test.YtndjijadalkidaaDoorIn
import Derived.Test.YtndjijadalkidaaDoorRh
namespace Go.Proofs.YtndjijadalkidaaDoor
open Go.Proofs Go.Shelf Go.RowKit
set_option maxHeartbeats 6400000 in
set_option maxRecDepth 100000 in
theorem holds_key (p q : Px) (a : Ad) (hp : p.ok) (hq : q.ok) (ha : a.ok) (W : World) (m : Int) (hm : Mx m W) (ht : T10 W) :
    Calls Tryd.prog 4 #[pxV p, pxV q, adV a] W fun e w' => e = .returned (.bool true) ∧ Fr N0 W w' := by
  have ka := fun w => awake_any (w := w) m
  obtain ⟨r, hr⟩ := cm_ex hp.ad ha
  have k1 : ∀ w : World, Calls Tryd.prog 20 #[adV p.ad, adV a] w fun e w' => e = .returned (.int .i64 r) ∧ Fr N0 w w' := fun w =>
    (com_ (w := w) p.ad a hp.ad ha).mono fun e w' ⟨q, he, hq, hf⟩ => ⟨by rw [he, hq.eq hr], hf⟩
  have k2 : ∀ w : World, Calls Tryd.prog 21 #[adV p.ad, adV a] w fun e w' => e = .returned (.int .i64 r) ∧ Fr N0 w w' := fun w =>
    (rcom (w := w) p.ad a hp.ad ha).mono fun e w' ⟨q, he, hq, hf⟩ => ⟨by rw [he, hq.eq hr], hf⟩
  have k3 := fun w => hol_ (w := w) p a hp ha
  have k4 := fun w => rhol (w := w) p a hp ha
  have k5 := fun w => cov_ (w := w) p q hp hq
  have k6 := fun w => rcov (w := w) p q hp hq
  obtain ⟨b, hb⟩ : ∃ b, b = holdsP p a := ⟨_, rfl⟩
  obtain ⟨c, hc⟩ : ∃ c, c = coversP p q := ⟨_, rfl⟩
  rw [← hb] at k3 k4
  rw [← hc] at k5 k6
  clear hb hc hr hp hq ha
  obtain ⟨⟨s1, h1, l1⟩, m1⟩ := p
  obtain ⟨⟨s2, h2, l2⟩, m2⟩ := q
  obtain ⟨s3, h3, l3⟩ := a
  unfold pxV adV at *
  simp only at *
  obtain ⟨w, hw⟩ : ∃ w, w = W := ⟨_, rfl⟩
  rw [← hw] at hm ht ⊢
  clear hw
  go_enter Tryd.func4, Tryd.ntmps4
  go_wp2_with fail
  have HA1 := Lib.hid (((Blk.new w 26 #[Value.bool s1, Value.int .u64 (h1 : Int), Value.int .u64 (l1 : Int), Value.int .i64 m1]).alloc (.cells #[Value.bool s2, Value.int .u64 (h2 : Int), Value.int .u64 (l2 : Int), Value.int .i64 m2] 26)).alloc (.cells #[Value.bool s3, Value.int .u64 (h3 : Int), Value.int .u64 (l3 : Int)] 24))
  have HA2 := Lib.hid ((Blk.alloc2 w (.cells #[Value.bool s1, Value.int .u64 (h1 : Int), Value.int .u64 (l1 : Int), Value.int .i64 m1] 26) 26 #[Value.bool s2, Value.int .u64 (h2 : Int), Value.int .u64 (l2 : Int), Value.int .i64 m2]).alloc (.cells #[Value.bool s3, Value.int .u64 (h3 : Int), Value.int .u64 (l3 : Int)] 24))
  have HA3 := Lib.hid (Blk.alloc3 w (.cells #[Value.bool s1, Value.int .u64 (h1 : Int), Value.int .u64 (l1 : Int), Value.int .i64 m1] 26) (.cells #[Value.bool s2, Value.int .u64 (h2 : Int), Value.int .u64 (l2 : Int), Value.int .i64 m2] 26) 24 #[Value.bool s3, Value.int .u64 (h3 : Int), Value.int .u64 (l3 : Int)])
  have HF1 := Lib.hid (Fr.alloc (Fr.alloc (Fr.alloc (Fr.refl N0 w) (.cells #[Value.bool s1, Value.int .u64 (h1 : Int), Value.int .u64 (l1 : Int), Value.int .i64 m1] 26)) (.cells #[Value.bool s2, Value.int .u64 (h2 : Int), Value.int .u64 (l2 : Int), Value.int .i64 m2] 26)) (.cells #[Value.bool s3, Value.int .u64 (h3 : Int), Value.int .u64 (l3 : Int)] 24))
  generalize World.alloc (World.alloc (w.alloc _) _) _ = w1 at *
  obtain ⟨g3, hg3⟩ : ∃ g3, g3 = w.heap.size + 2 := ⟨_, rfl⟩
  rw [← hg3] at HA3 ⊢
  have HG3 : Hid (w.heap.size ≤ g3) := Lib.hid (by omega)
  obtain ⟨g2, hg2⟩ : ∃ g2, g2 = w.heap.size + 1 := ⟨_, rfl⟩
  rw [← hg2] at HA2 ⊢
  have HG2 : Hid (w.heap.size ≤ g2) := Lib.hid (by omega)
  obtain ⟨g1, hg1⟩ : ∃ g1, g1 = w.heap.size := ⟨_, rfl⟩
  rw [← hg1] at HA1 ⊢
  have HG1 : Hid (w.heap.size ≤ g1) := Lib.hid (by omega)
  have HN2_3 : Hid (g2 ≠ g3) := Lib.hid (by omega)
  have HN1_2 : Hid (g1 ≠ g2) := Lib.hid (by omega)
  have HN1_3 : Hid (g1 ≠ g3) := Lib.hid (by omega)
  clear hg1 hg2 hg3
  have HZ1 : Hid (∀ W, Fr N0 w1 W → Blk W g1 26 #[Value.bool s1, Value.int .u64 (h1 : Int), Value.int .u64 (l1 : Int), Value.int .i64 m1]) := Lib.hid fun W hf => HA1.out.fr hf id
  have HZ2 : Hid (∀ W, Fr N0 w1 W → Blk W g2 26 #[Value.bool s2, Value.int .u64 (h2 : Int), Value.int .u64 (l2 : Int), Value.int .i64 m2]) := Lib.hid fun W hf => HA2.out.fr hf id
  have HZ3 : Hid (∀ W, Fr N0 w1 W → Blk W g3 24 #[Value.bool s3, Value.int .u64 (h3 : Int), Value.int .u64 (l3 : Int)]) := Lib.hid fun W hf => HA3.out.fr hf id
  have F := Lib.hid (Fr.refl N0 w1)
  have hm1 := hm.fr HF1.out
  have ht1 := ht.fr HF1.out
  obtain ⟨z1_0, z1_1, z1_2, z1_3⟩ := (HZ1.out _ F.out).c4
  obtain ⟨z2_0, z2_1, z2_2, z2_3⟩ := (HZ2.out _ F.out).c4
  obtain ⟨z3_0, z3_1, z3_2⟩ := (HZ3.out _ F.out).c3
  refine (ka _ hm1 ht1).mono ?_
  rintro e w2 ⟨rfl, hf⟩
  have F := Lib.hid (F.out.trans hf); obtain ⟨z1_0, z1_1, z1_2, z1_3⟩ := (HZ1.out _ F.out).c4; obtain ⟨z2_0, z2_1, z2_2, z2_3⟩ := (HZ2.out _ F.out).c4; obtain ⟨z3_0, z3_1, z3_2⟩ := (HZ3.out _ F.out).c3
  clear ka hm ht hm1 ht1
  go_wp2_with fail
  have u0 := fun x : Fam w2 => (HZ1.out x.w (F.out.trans x.fr)).c4.1
  have u1 := fun x : Fam w2 => (HZ1.out x.w (F.out.trans x.fr)).c4.2.1
  have u2 := fun x : Fam w2 => (HZ1.out x.w (F.out.trans x.fr)).c4.2.2.1
  have u3 := fun x : Fam w2 => (HZ1.out x.w (F.out.trans x.fr)).c4.2.2.2
  have v0 := fun x : Fam w2 => (HZ2.out x.w (F.out.trans x.fr)).c4.1
  have v1 := fun x : Fam w2 => (HZ2.out x.w (F.out.trans x.fr)).c4.2.1
  have v2 := fun x : Fam w2 => (HZ2.out x.w (F.out.trans x.fr)).c4.2.2.1
  have v3 := fun x : Fam w2 => (HZ2.out x.w (F.out.trans x.fr)).c4.2.2.2
  have y0 := fun x : Fam w2 => (HZ3.out x.w (F.out.trans x.fr)).c3.1
  have y1 := fun x : Fam w2 => (HZ3.out x.w (F.out.trans x.fr)).c3.2.1
  have y2 := fun x : Fam w2 => (HZ3.out x.w (F.out.trans x.fr)).c3.2.2
  clear z1_0 z1_1 z1_2 z1_3 z2_0 z2_1 z2_2 z2_3 z3_0 z3_1 z3_2 hf
  refine wp_region_fam (by kernel_rfl) (by kernel_rfl) ?_
  repeat (go_big_quiet_step ((first
    | (go_at_call 16; exact fam_call (k3 _))
    | (go_at_call 17; exact fam_call (k4 _))
    | (go_at_call 18; exact fam_call (k5 _))
    | (go_at_call 19; exact fam_call (k6 _)))))
  first | refine wpQuiet_nil ?_ | (go_big_quiet_want; go_big_quiet_op; done)
  rintro _ ⟨xq, rfl⟩
  have F2 := Lib.hid (F.out.trans xq.fr)
  obtain ⟨w5, hw5⟩ : ∃ w5, w5 = xq.w := ⟨_, rfl⟩
  rw [← hw5] at F2 ⊢
  clear u0 u1 u2 u3 v0 v1 v2 v3 y0 y1 y2 hw5 k3 k4 k5 k6
  go_wp2_with fail
  have u0 := fun x : Fam w5 => (HZ1.out x.w (F2.out.trans x.fr)).c4.1
  have u1 := fun x : Fam w5 => (HZ1.out x.w (F2.out.trans x.fr)).c4.2.1
  have u2 := fun x : Fam w5 => (HZ1.out x.w (F2.out.trans x.fr)).c4.2.2.1
  have u3 := fun x : Fam w5 => (HZ1.out x.w (F2.out.trans x.fr)).c4.2.2.2
  have y0 := fun x : Fam w5 => (HZ3.out x.w (F2.out.trans x.fr)).c3.1
  have y1 := fun x : Fam w5 => (HZ3.out x.w (F2.out.trans x.fr)).c3.2.1
  have y2 := fun x : Fam w5 => (HZ3.out x.w (F2.out.trans x.fr)).c3.2.2
  refine wp_region_fam (by kernel_rfl) (by kernel_rfl) ?_
  repeat (go_big_quiet_step ((first
    | (go_at_call 20; exact fam_call (k1 _))
    | (go_at_call 21; exact fam_call (k2 _)))))
  first | refine wpQuiet_nil ?_ | (go_big_quiet_want; go_big_quiet_op; done)
  rintro _ ⟨xr, rfl⟩
  go_wp2_with fail
  go_ret
  exact ⟨rfl, HF1.out.trans (F2.out.trans xr.fr)⟩
theorem holds_walk (W : World) (hS : W.ShapedOpen Tryd.prog) (ht : T10 W) (A : Array Value) (ra : Rd Tryd.prog W 26 A.toList) (B : Array Value) (rb : Rd Tryd.prog W 26 B.toList) (C : Array Value) (rc : Rd Tryd.prog W 24 C.toList) :
    Calls Tryd.prog 4 #[.agg A, .agg B, .agg C] W fun e w' => e = .returned (.bool true) ∧ Below W.heap.size W w' := by
  obtain ⟨p, ep, hp⟩ := rd_px ra
  obtain ⟨q, eq, hq⟩ := rd_px rb
  obtain ⟨a, ea, ha⟩ := rd_ad rc
  rw [px_arr ep, px_arr eq, ad_arr ea]
  obtain ⟨m, hm⟩ := mx_of hS
  exact (holds_key p q a hp hq ha W m hm ht).mono fun e w' ⟨he, hf⟩ => ⟨he, hf.below (Nat.le_refl _) fun _ _ h => h.elim⟩
end Go.Proofs.YtndjijadalkidaaDoor
