/- PrefixNests: what it answers. -/
import Derived.Test.YtndjijadalkidaaDoorIn
namespace Go.Proofs.YtndjijadalkidaaDoor
open Go.Proofs Go.Shelf Go.RowKit
set_option maxHeartbeats 3200000 in
set_option maxRecDepth 100000 in
theorem nests_key (p q : Px) (a : Ad) (hp : p.ok) (hq : q.ok) (ha : a.ok) (W : World) (m : Int) (hm : Mx m W) (ht : T10 W) (x y one two e v : Bool) (hx : coversP p q = x) (hy : coversP q p = y) (h1 : holdsP p a = one) (h2 : holdsP q a = two) (he : decide (p = q) = e) (hv : validP p = v)
    (hl : (x && two && !one || y && one && !two || one && two && !x && !y) = false) (hl2 : ((x && y) == (e && v)) = true) :
    Calls Tryd.prog 7 #[pxV p, pxV q, adV a] W fun e w' => e = .returned (.bool true) ∧ Fr N0 W w' := by
  have ka := fun w => awake_any (w := w) m
  have kx := fun w => hx ▸ cov_ (w := w) p q hp hq
  have ky := fun w => hy ▸ cov_ (w := w) q p hq hp
  have k1 := fun w => h1 ▸ hol_ (w := w) p a hp ha
  have k2 := fun w => h2 ▸ hol_ (w := w) q a hq ha
  have kv := fun w => hv ▸ val_ (w := w) p hp
  have E := fun w => he ▸ eql_px p q w
  have EG := fun X Y w => guard_px .eql X Y p q w
  clear hx hy h1 h2 he hv hp hq ha
  obtain ⟨⟨s1, h1, l1⟩, m1⟩ := p
  obtain ⟨⟨s2, h2, l2⟩, m2⟩ := q
  obtain ⟨s3, h3, l3⟩ := a
  unfold pxV adV at *
  simp only at *
  have HL := Lib.hid hl
  have HL2 := Lib.hid hl2
  clear hl hl2
  obtain ⟨w, hw⟩ : ∃ w, w = W := ⟨_, rfl⟩
  rw [← hw] at hm ht ⊢
  clear hw
  go_enter Tryd.func7, Tryd.ntmps7
  go_wp2_with fail
  have HA1 := Lib.hid (((Blk.new w 26 #[Value.bool s1, Value.int .u64 (h1 : Int), Value.int .u64 (l1 : Int), Value.int .i64 m1]).alloc (.cells #[Value.bool s2, Value.int .u64 (h2 : Int), Value.int .u64 (l2 : Int), Value.int .i64 m2] 26)).alloc (.cells #[Value.bool s3, Value.int .u64 (h3 : Int), Value.int .u64 (l3 : Int)] 24))
  have HA2 := Lib.hid ((Blk.alloc2 w (.cells #[Value.bool s1, Value.int .u64 (h1 : Int), Value.int .u64 (l1 : Int), Value.int .i64 m1] 26) 26 #[Value.bool s2, Value.int .u64 (h2 : Int), Value.int .u64 (l2 : Int), Value.int .i64 m2]).alloc (.cells #[Value.bool s3, Value.int .u64 (h3 : Int), Value.int .u64 (l3 : Int)] 24))
  have HA3 := Lib.hid (Blk.alloc3 w (.cells #[Value.bool s1, Value.int .u64 (h1 : Int), Value.int .u64 (l1 : Int), Value.int .i64 m1] 26) (.cells #[Value.bool s2, Value.int .u64 (h2 : Int), Value.int .u64 (l2 : Int), Value.int .i64 m2] 26) 24 #[Value.bool s3, Value.int .u64 (h3 : Int), Value.int .u64 (l3 : Int)])
  have HF1 := Lib.hid (Fr.alloc (Fr.alloc (Fr.alloc (Fr.refl N0 w) (.cells #[Value.bool s1, Value.int .u64 (h1 : Int), Value.int .u64 (l1 : Int), Value.int .i64 m1] 26)) (.cells #[Value.bool s2, Value.int .u64 (h2 : Int), Value.int .u64 (l2 : Int), Value.int .i64 m2] 26)) (.cells #[Value.bool s3, Value.int .u64 (h3 : Int), Value.int .u64 (l3 : Int)] 24))
  generalize World.alloc (World.alloc (w.alloc _) _) _ = w1 at *
  obtain ⟨g3, hg3⟩ : ∃ g3, g3 = w.heap.size + 2 := ⟨_, rfl⟩
  rw [← hg3] at HA3 ⊢
  have HG3 : Hid (w.heap.size ≤ g3) := Lib.hid (by omega)
  obtain ⟨g2, hg2⟩ : ∃ g2, g2 = w.heap.size + 1 := ⟨_, rfl⟩
  rw [← hg2] at HA2 ⊢
  have HG2 : Hid (w.heap.size ≤ g2) := Lib.hid (by omega)
  obtain ⟨g1, hg1⟩ : ∃ g1, g1 = w.heap.size := ⟨_, rfl⟩
  rw [← hg1] at HA1 ⊢
  have HG1 : Hid (w.heap.size ≤ g1) := Lib.hid (by omega)
  have HN2_3 : Hid (g2 ≠ g3) := Lib.hid (by omega)
  have HN1_2 : Hid (g1 ≠ g2) := Lib.hid (by omega)
  have HN1_3 : Hid (g1 ≠ g3) := Lib.hid (by omega)
  clear hg1 hg2 hg3
  have HZ1 : Hid (∀ W, Fr N0 w1 W → Blk W g1 26 #[Value.bool s1, Value.int .u64 (h1 : Int), Value.int .u64 (l1 : Int), Value.int .i64 m1]) := Lib.hid fun W hf => HA1.out.fr hf id
  have HZ2 : Hid (∀ W, Fr N0 w1 W → Blk W g2 26 #[Value.bool s2, Value.int .u64 (h2 : Int), Value.int .u64 (l2 : Int), Value.int .i64 m2]) := Lib.hid fun W hf => HA2.out.fr hf id
  have HZ3 : Hid (∀ W, Fr N0 w1 W → Blk W g3 24 #[Value.bool s3, Value.int .u64 (h3 : Int), Value.int .u64 (l3 : Int)]) := Lib.hid fun W hf => HA3.out.fr hf id
  have F := Lib.hid (Fr.refl N0 w1)
  have hm1 := hm.fr HF1.out
  have ht1 := ht.fr HF1.out
  obtain ⟨z1_0, z1_1, z1_2, z1_3⟩ := (HZ1.out _ F.out).c4
  obtain ⟨z2_0, z2_1, z2_2, z2_3⟩ := (HZ2.out _ F.out).c4
  obtain ⟨z3_0, z3_1, z3_2⟩ := (HZ3.out _ F.out).c3
  refine (ka _ hm1 ht1).mono ?_
  rintro e w2 ⟨rfl, hf⟩
  have F := Lib.hid (F.out.trans hf); obtain ⟨z1_0, z1_1, z1_2, z1_3⟩ := (HZ1.out _ F.out).c4; obtain ⟨z2_0, z2_1, z2_2, z2_3⟩ := (HZ2.out _ F.out).c4; obtain ⟨z3_0, z3_1, z3_2⟩ := (HZ3.out _ F.out).c3
  clear ka hm ht hm1 ht1
  go_wp2_with fail
  refine (kx _).mono ?_
  rintro e w3 ⟨rfl, hf⟩
  have F := Lib.hid (F.out.trans hf); obtain ⟨z1_0, z1_1, z1_2, z1_3⟩ := (HZ1.out _ F.out).c4; obtain ⟨z2_0, z2_1, z2_2, z2_3⟩ := (HZ2.out _ F.out).c4; obtain ⟨z3_0, z3_1, z3_2⟩ := (HZ3.out _ F.out).c3
  go_wp2_with fail
  refine (ky _).mono ?_
  rintro e w4 ⟨rfl, hf⟩
  have F := Lib.hid (F.out.trans hf); obtain ⟨z1_0, z1_1, z1_2, z1_3⟩ := (HZ1.out _ F.out).c4; obtain ⟨z2_0, z2_1, z2_2, z2_3⟩ := (HZ2.out _ F.out).c4; obtain ⟨z3_0, z3_1, z3_2⟩ := (HZ3.out _ F.out).c3
  go_wp2_with fail
  refine (k1 _).mono ?_
  rintro e w5 ⟨rfl, hf⟩
  have F := Lib.hid (F.out.trans hf); obtain ⟨z1_0, z1_1, z1_2, z1_3⟩ := (HZ1.out _ F.out).c4; obtain ⟨z2_0, z2_1, z2_2, z2_3⟩ := (HZ2.out _ F.out).c4; obtain ⟨z3_0, z3_1, z3_2⟩ := (HZ3.out _ F.out).c3
  go_wp2_with fail
  refine (k2 _).mono ?_
  rintro e w6 ⟨rfl, hf⟩
  have F := Lib.hid (F.out.trans hf); obtain ⟨z1_0, z1_1, z1_2, z1_3⟩ := (HZ1.out _ F.out).c4; obtain ⟨z2_0, z2_1, z2_2, z2_3⟩ := (HZ2.out _ F.out).c4; obtain ⟨z3_0, z3_1, z3_2⟩ := (HZ3.out _ F.out).c3
  clear kx ky k1 k2
  have hl := HL.out
  have hl2 := HL2.out
  clear HL HL2
  cases x <;> cases y <;> cases one <;> cases two <;> first
    | (exfalso; simp at hl; done)
    | (clear hl
       cases e <;> cases v <;> first
         | (exfalso; simp at hl2; done)
         | (clear hl2
            go_wp2_with (go_at_call 14; refine (kv _).mono ?_; rintro e w7 ⟨rfl, hf⟩; have F := Lib.hid (F.out.trans hf); obtain ⟨z1_0, z1_1, z1_2, z1_3⟩ := (HZ1.out _ F.out).c4; obtain ⟨z2_0, z2_1, z2_2, z2_3⟩ := (HZ2.out _ F.out).c4; obtain ⟨z3_0, z3_1, z3_2⟩ := (HZ3.out _ F.out).c3)
            go_ret
            exact ⟨rfl, HF1.out.trans F.out⟩))
theorem nests_walk (W : World) (hS : W.ShapedOpen Tryd.prog) (ht : T10 W) (A : Array Value) (ra : Rd Tryd.prog W 26 A.toList) (B : Array Value) (rb : Rd Tryd.prog W 26 B.toList) (C : Array Value) (rc : Rd Tryd.prog W 24 C.toList) :
    Calls Tryd.prog 7 #[.agg A, .agg B, .agg C] W fun e w' => e = .returned (.bool true) ∧ Below W.heap.size W w' := by
  obtain ⟨p, ep, hp⟩ := rd_px ra
  obtain ⟨q, eq, hq⟩ := rd_px rb
  obtain ⟨a, ea, ha⟩ := rd_ad rc
  rw [px_arr ep, px_arr eq, ad_arr ea]
  obtain ⟨m, hm⟩ := mx_of hS
  have hn := nests_law hp.ad hq.ad ha
  refine (nests_key p q a hp hq ha W m hm ht _ _ _ _ _ _ rfl rfl rfl rfl rfl rfl ?_ ?_).mono fun e w' ⟨he, hf⟩ => ⟨he, hf.below (Nat.le_refl _) fun _ _ h => h.elim⟩
  · obtain ⟨n1, n2, n3⟩ := hn
    have n1' := (nests_law hq.ad hp.ad ha).1
    revert n1 n1' n2
    cases coversP p q <;> cases coversP q p <;> cases holdsP p a <;> cases holdsP q a <;> simp
  · have n3 := hn.2.2
    revert n3
    rw [beq_iff_eq]
    cases coversP p q <;> cases coversP q p <;> cases validP p <;> by_cases e : p = q <;> simp [e]
end Go.Proofs.YtndjijadalkidaaDoor
