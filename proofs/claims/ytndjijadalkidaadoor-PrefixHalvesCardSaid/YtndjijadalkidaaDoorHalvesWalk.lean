/- PrefixHalves: what it answers. -/
import Derived.Test.YtndjijadalkidaaDoorIn
import Derived.Test.YtndjijadalkidaaDoorRv2
import Derived.Test.YtndjijadalkidaaDoorCo
namespace Go.Proofs.YtndjijadalkidaaDoor
open Go.Proofs Go.Shelf Go.RowKit
set_option maxHeartbeats 6400000 in
set_option maxRecDepth 100000 in
theorem halves_full (p : Px) (a : Ad) (hp : p.ok) (W : World) (m : Int) (hm : Mx m W) (ht : T10 W) (hf : fullP p = true) :
    Calls Tryd.prog 6 #[pxV p, adV a] W fun e w' => e = .returned (.bool true) ∧ Fr N0 W w' := by
  have ka := fun w => awake_any (w := w) m
  have kh := fun w => halv_ (w := w) p hp
  rw [show halvesP p = (⟨⟨false, 0, 0⟩, 0⟩, ⟨⟨false, 0, 0⟩, 0⟩, 1) by unfold halvesP; rw [if_pos hf]] at kh
  have kv := fun w => val_ (w := w) p hp
  obtain ⟨v, hv⟩ : ∃ v, v = validP p := ⟨_, rfl⟩
  rw [← hv] at kv
  have hc : v = false ∨ (v = true ∧ p.ad.six = true ∧ p.bits = 128) ∨ (v = true ∧ p.ad.six = false ∧ p.bits = 32) := by
    unfold fullP at hf
    rw [← hv] at hf
    cases v with
    | false => exact .inl rfl
    | true =>
      simp at hf
      unfold widthA at hf
      cases h : p.ad.six with
      | true => rw [h] at hf; exact .inr (.inl ⟨rfl, rfl, by simpa using hf⟩)
      | false => rw [h] at hf; exact .inr (.inr ⟨rfl, rfl, by simpa using hf⟩)
  have E := eql_lit ⟨⟨false, 0, 0⟩, 0⟩ ⟨⟨false, 0, 0⟩, 0⟩ true (by decide)
  have EG := fun X Y W => guard_px .eql X Y ⟨⟨false, 0, 0⟩, 0⟩ ⟨⟨false, 0, 0⟩, 0⟩ W
  change ∀ W, (binOp .eql 26 (.agg #[.bool false, .int .u64 0, .int .u64 0, .int .i64 0]) (.agg #[.bool false, .int .u64 0, .int .u64 0, .int .i64 0])).run Tryd.prog W = .ok (.bool true) W at E
  change ∀ X Y W, (eqGuard .eql 26 X Y (.agg #[.bool false, .int .u64 0, .int .u64 0, .int .i64 0]) (.agg #[.bool false, .int .u64 0, .int .u64 0, .int .i64 0])).run Tryd.prog W = .ok () W at EG
  change ∀ w, Calls Tryd.prog 24 #[pxV p] w fun e w' => e = .returned (.tuple #[.agg #[.bool false, .int .u64 0, .int .u64 0, .int .i64 0], .agg #[.bool false, .int .u64 0, .int .u64 0, .int .i64 0], .int .i64 1]) ∧ Fr N0 w w' at kh
  clear hf hv hp
  obtain ⟨⟨s1, h1, l1⟩, m1⟩ := p
  obtain ⟨s2, h2, l2⟩ := a
  unfold pxV adV at *
  simp only at kv kh hc ⊢
  obtain ⟨w, hw⟩ : ∃ w, w = W := ⟨_, rfl⟩
  rw [← hw] at hm ht ⊢
  clear hw
  go_enter Tryd.func6, Tryd.ntmps6
  go_wp2_with fail
  have HA1 := Lib.hid ((Blk.new w 26 #[Value.bool s1, Value.int .u64 (h1 : Int), Value.int .u64 (l1 : Int), Value.int .i64 m1]).alloc (.cells #[Value.bool s2, Value.int .u64 (h2 : Int), Value.int .u64 (l2 : Int)] 24))
  have HA2 := Lib.hid (Blk.alloc2 w (.cells #[Value.bool s1, Value.int .u64 (h1 : Int), Value.int .u64 (l1 : Int), Value.int .i64 m1] 26) 24 #[Value.bool s2, Value.int .u64 (h2 : Int), Value.int .u64 (l2 : Int)])
  have HF1 := Lib.hid (Fr.alloc (Fr.alloc (Fr.refl N0 w) (.cells #[Value.bool s1, Value.int .u64 (h1 : Int), Value.int .u64 (l1 : Int), Value.int .i64 m1] 26)) (.cells #[Value.bool s2, Value.int .u64 (h2 : Int), Value.int .u64 (l2 : Int)] 24))
  generalize World.alloc (w.alloc _) _ = w1 at *
  obtain ⟨g2, hg2⟩ : ∃ g2, g2 = w.heap.size + 1 := ⟨_, rfl⟩
  rw [← hg2] at HA2 ⊢
  have HG2 : Hid (w.heap.size ≤ g2) := Lib.hid (by omega)
  obtain ⟨g1, hg1⟩ : ∃ g1, g1 = w.heap.size := ⟨_, rfl⟩
  rw [← hg1] at HA1 ⊢
  have HG1 : Hid (w.heap.size ≤ g1) := Lib.hid (by omega)
  have HN1_2 : Hid (g1 ≠ g2) := Lib.hid (by omega)
  clear hg1 hg2
  have HZ1 : Hid (∀ W, Fr N0 w1 W → Blk W g1 26 #[Value.bool s1, Value.int .u64 (h1 : Int), Value.int .u64 (l1 : Int), Value.int .i64 m1]) := Lib.hid fun W hf => HA1.out.fr hf id
  have HZ2 : Hid (∀ W, Fr N0 w1 W → Blk W g2 24 #[Value.bool s2, Value.int .u64 (h2 : Int), Value.int .u64 (l2 : Int)]) := Lib.hid fun W hf => HA2.out.fr hf id
  have F := Lib.hid (Fr.refl N0 w1)
  have hm1 := hm.fr HF1.out
  have ht1 := ht.fr HF1.out
  obtain ⟨z1_0, z1_1, z1_2, z1_3⟩ := (HZ1.out _ F.out).c4
  obtain ⟨z2_0, z2_1, z2_2⟩ := (HZ2.out _ F.out).c3
  refine (ka _ hm1 ht1).mono ?_
  rintro e w2 ⟨rfl, hf⟩
  have F := Lib.hid (F.out.trans hf); obtain ⟨z1_0, z1_1, z1_2, z1_3⟩ := (HZ1.out _ F.out).c4; obtain ⟨z2_0, z2_1, z2_2⟩ := (HZ2.out _ F.out).c3
  clear ka hm ht hm1 ht1
  go_wp2_with fail
  refine (kh _).mono ?_
  rintro e w3 ⟨rfl, hf⟩
  have F := Lib.hid (F.out.trans hf); obtain ⟨z1_0, z1_1, z1_2, z1_3⟩ := (HZ1.out _ F.out).c4; obtain ⟨z2_0, z2_1, z2_2⟩ := (HZ2.out _ F.out).c3
  have hl1 := (HZ1.out _ F.out).lt
  have hl2 := (HZ2.out _ F.out).lt
  clear hf
  go_wp2_with fail
  clear z1_0 z1_1 z1_2 z1_3 z2_0 z2_1 z2_2
  have F4 := Lib.hid ((F.out.alloc (.cells #[.bool false, .int .u64 0, .int .u64 0, .int .i64 0] 26)).alloc (.cells #[.bool false, .int .u64 0, .int .u64 0, .int .i64 0] 26))
  have B6 := Lib.hid ((Blk.new w3 26 #[.bool false, .int .u64 0, .int .u64 0, .int .i64 0]).alloc (.cells #[.bool false, .int .u64 0, .int .u64 0, .int .i64 0] 26))
  have B7 := Lib.hid (Blk.alloc2 w3 (.cells #[.bool false, .int .u64 0, .int .u64 0, .int .i64 0] 26) 26 #[.bool false, .int .u64 0, .int .u64 0, .int .i64 0])
  clear F hl1 hl2
  generalize World.alloc (w3.alloc _) _ = w4 at *
  generalize w3.heap.size + 1 = g7 at *
  generalize w3.heap.size = g6 at *
  have F := F4
  have HZ6 := Lib.hid fun (W : World) (hf : Fr N0 w4 W) => (B6.out.fr hf id).c4
  have HZ7 := Lib.hid fun (W : World) (hf : Fr N0 w4 W) => (B7.out.fr hf id).c4
  have G := Lib.hid (Fr.refl N0 w4)
  clear F4 B6 B7
  rcases hc with rfl | ⟨rfl, rfl, rfl⟩ | ⟨rfl, rfl, rfl⟩
  all_goals
    refine (kv _).mono ?_
    rintro e w5 ⟨rfl, hf⟩
    have G := Lib.hid (G.out.trans hf)
    have F := Lib.hid (F.out.trans hf); obtain ⟨z1_0, z1_1, z1_2, z1_3⟩ := (HZ1.out _ F.out).c4; obtain ⟨z2_0, z2_1, z2_2⟩ := (HZ2.out _ F.out).c3
    obtain ⟨a0, a1, a2, a3⟩ := HZ6.out _ G.out
    obtain ⟨b0, b1, b2, b3⟩ := HZ7.out _ G.out
    go_wp2_with (go_at_call 14; refine (kv _).mono ?_; rintro e w5 ⟨rfl, hf⟩; have G := Lib.hid (G.out.trans hf); obtain ⟨a0, a1, a2, a3⟩ := HZ6.out _ G.out; obtain ⟨b0, b1, b2, b3⟩ := HZ7.out _ G.out; have F := Lib.hid (F.out.trans hf); obtain ⟨z1_0, z1_1, z1_2, z1_3⟩ := (HZ1.out _ F.out).c4; obtain ⟨z2_0, z2_1, z2_2⟩ := (HZ2.out _ F.out).c3)
    go_ret
    exact ⟨rfl, HF1.out.trans F.out⟩
set_option maxHeartbeats 12800000 in
set_option maxRecDepth 100000 in
theorem halves_part (p x y : Px) (a : Ad) (hp : p.ok) (hx : x.ok) (hy : y.ok) (ha : a.ok) (W : World) (m : Int) (hm : Mx m W) (ht : T10 W) (hh : halvesP p = (x, y, 0)) (b one two : Bool) (h1 : holdsP p a = b) (h2 : holdsP x a = one) (h3 : holdsP y a = two)
    (hc : (b = false ∧ one = false ∧ two = false) ∨ (b = true ∧ one = true ∧ two = false) ∨ (b = true ∧ one = false ∧ two = true))
    (c1 : coversP p x = true) (c2 : coversP p y = true) (c3 : coversP x y = false) (c4 : coversP y x = false) (c5 : coversP x p = false) (l1 : ltP p x = true) (l2 : ltP x y = true) :
    Calls Tryd.prog 6 #[pxV p, adV a] W fun e w' => e = .returned (.bool true) ∧ Fr N0 W w' := by
  have ka := fun w => awake_any (w := w) m
  have kh := fun w => hh ▸ halv_ (w := w) p hp
  have kr := fun w => hh ▸ rhalv (w := w) p hp
  have k1 := fun w => h1 ▸ hol_ (w := w) p a hp ha
  have k2 := fun w => h2 ▸ hol_ (w := w) x a hx ha
  have k3 := fun w => h3 ▸ hol_ (w := w) y a hy ha
  have q1 := fun w => c1 ▸ cov_ (w := w) p x hp hx
  have q2 := fun w => c2 ▸ cov_ (w := w) p y hp hy
  have q3 := fun w => c3 ▸ cov_ (w := w) x y hx hy
  have q4 := fun w => c4 ▸ cov_ (w := w) y x hy hx
  have q5 := fun w => c5 ▸ cov_ (w := w) x p hx hp
  have r1 := fun w => l1 ▸ les_ (w := w) p x hp hx
  have r2 := fun w => l2 ▸ les_ (w := w) x y hx hy
  have E := fun w => eql_px x x w
  have E2 := fun w => eql_px y y w
  rw [decide_eq_true rfl] at E E2
  have EG := fun X Y W => guard_px .eql X Y x x W
  have EG2 := fun X Y W => guard_px .eql X Y y y W
  clear h1 h2 h3 c1 c2 c3 c4 c5 l1 l2 hh hp hx hy ha
  obtain ⟨⟨s1, h1, l1⟩, m1⟩ := p
  obtain ⟨s2, h2, l2⟩ := a
  obtain ⟨⟨s3, h3, l3⟩, m3⟩ := x
  obtain ⟨⟨s4, h4, l4⟩, m4⟩ := y
  unfold pxV adV at *
  simp only at *
  have HC := Lib.hid hc
  clear hc
  obtain ⟨w, hw⟩ : ∃ w, w = W := ⟨_, rfl⟩
  rw [← hw] at hm ht ⊢
  clear hw
  go_enter Tryd.func6, Tryd.ntmps6
  go_wp2_with fail
  have HA1 := Lib.hid ((Blk.new w 26 #[Value.bool s1, Value.int .u64 (h1 : Int), Value.int .u64 (l1 : Int), Value.int .i64 m1]).alloc (.cells #[Value.bool s2, Value.int .u64 (h2 : Int), Value.int .u64 (l2 : Int)] 24))
  have HA2 := Lib.hid (Blk.alloc2 w (.cells #[Value.bool s1, Value.int .u64 (h1 : Int), Value.int .u64 (l1 : Int), Value.int .i64 m1] 26) 24 #[Value.bool s2, Value.int .u64 (h2 : Int), Value.int .u64 (l2 : Int)])
  have HF1 := Lib.hid (Fr.alloc (Fr.alloc (Fr.refl N0 w) (.cells #[Value.bool s1, Value.int .u64 (h1 : Int), Value.int .u64 (l1 : Int), Value.int .i64 m1] 26)) (.cells #[Value.bool s2, Value.int .u64 (h2 : Int), Value.int .u64 (l2 : Int)] 24))
  generalize World.alloc (w.alloc _) _ = w1 at *
  obtain ⟨g2, hg2⟩ : ∃ g2, g2 = w.heap.size + 1 := ⟨_, rfl⟩
  rw [← hg2] at HA2 ⊢
  have HG2 : Hid (w.heap.size ≤ g2) := Lib.hid (by omega)
  obtain ⟨g1, hg1⟩ : ∃ g1, g1 = w.heap.size := ⟨_, rfl⟩
  rw [← hg1] at HA1 ⊢
  have HG1 : Hid (w.heap.size ≤ g1) := Lib.hid (by omega)
  have HN1_2 : Hid (g1 ≠ g2) := Lib.hid (by omega)
  clear hg1 hg2
  have HZ1 : Hid (∀ W, Fr N0 w1 W → Blk W g1 26 #[Value.bool s1, Value.int .u64 (h1 : Int), Value.int .u64 (l1 : Int), Value.int .i64 m1]) := Lib.hid fun W hf => HA1.out.fr hf id
  have HZ2 : Hid (∀ W, Fr N0 w1 W → Blk W g2 24 #[Value.bool s2, Value.int .u64 (h2 : Int), Value.int .u64 (l2 : Int)]) := Lib.hid fun W hf => HA2.out.fr hf id
  have F := Lib.hid (Fr.refl N0 w1)
  have hm1 := hm.fr HF1.out
  have ht1 := ht.fr HF1.out
  obtain ⟨z1_0, z1_1, z1_2, z1_3⟩ := (HZ1.out _ F.out).c4
  obtain ⟨z2_0, z2_1, z2_2⟩ := (HZ2.out _ F.out).c3
  refine (ka _ hm1 ht1).mono ?_
  rintro e w2 ⟨rfl, hf⟩
  have F := Lib.hid (F.out.trans hf); obtain ⟨z1_0, z1_1, z1_2, z1_3⟩ := (HZ1.out _ F.out).c4; obtain ⟨z2_0, z2_1, z2_2⟩ := (HZ2.out _ F.out).c3
  clear ka hm ht hm1 ht1
  go_wp2_with fail
  refine (kh _).mono ?_
  rintro e w3 ⟨rfl, hf⟩
  have F := Lib.hid (F.out.trans hf); obtain ⟨z1_0, z1_1, z1_2, z1_3⟩ := (HZ1.out _ F.out).c4; obtain ⟨z2_0, z2_1, z2_2⟩ := (HZ2.out _ F.out).c3
  have hl1 := (HZ1.out _ F.out).lt
  have hl2 := (HZ2.out _ F.out).lt
  clear hf kh
  go_wp2_with fail
  clear z1_0 z1_1 z1_2 z1_3 z2_0 z2_1 z2_2
  have F4 := Lib.hid ((F.out.alloc (.cells #[.bool s3, .int .u64 (h3 : Int), .int .u64 (l3 : Int), .int .i64 m3] 26)).alloc (.cells #[.bool s4, .int .u64 (h4 : Int), .int .u64 (l4 : Int), .int .i64 m4] 26))
  have B6 := Lib.hid ((Blk.new w3 26 #[.bool s3, .int .u64 (h3 : Int), .int .u64 (l3 : Int), .int .i64 m3]).alloc (.cells #[.bool s4, .int .u64 (h4 : Int), .int .u64 (l4 : Int), .int .i64 m4] 26))
  have B7 := Lib.hid (Blk.alloc2 w3 (.cells #[.bool s3, .int .u64 (h3 : Int), .int .u64 (l3 : Int), .int .i64 m3] 26) 26 #[.bool s4, .int .u64 (h4 : Int), .int .u64 (l4 : Int), .int .i64 m4])
  clear F hl1 hl2
  generalize World.alloc (w3.alloc _) _ = w4 at *
  generalize w3.heap.size + 1 = g7 at *
  generalize w3.heap.size = g6 at *
  have F := F4
  have HZ6 := Lib.hid fun (W : World) (hf : Fr N0 w4 W) => (B6.out.fr hf id).c4
  have HZ7 := Lib.hid fun (W : World) (hf : Fr N0 w4 W) => (B7.out.fr hf id).c4
  have G := Lib.hid (Fr.refl N0 w4)
  clear F4
  refine (k1 _).mono ?_
  rintro e w5 ⟨rfl, hf⟩
  have G := Lib.hid (G.out.trans hf)
  have F := Lib.hid (F.out.trans hf); obtain ⟨z1_0, z1_1, z1_2, z1_3⟩ := (HZ1.out _ F.out).c4; obtain ⟨z2_0, z2_1, z2_2⟩ := (HZ2.out _ F.out).c3
  obtain ⟨a0, a1, a2, a3⟩ := HZ6.out _ G.out
  obtain ⟨b0, b1, b2, b3⟩ := HZ7.out _ G.out
  go_wp2_with fail
  refine (k2 _).mono ?_
  rintro e w6 ⟨rfl, hf⟩
  have G := Lib.hid (G.out.trans hf)
  have F := Lib.hid (F.out.trans hf); obtain ⟨z1_0, z1_1, z1_2, z1_3⟩ := (HZ1.out _ F.out).c4; obtain ⟨z2_0, z2_1, z2_2⟩ := (HZ2.out _ F.out).c3
  obtain ⟨a0, a1, a2, a3⟩ := HZ6.out _ G.out
  obtain ⟨b0, b1, b2, b3⟩ := HZ7.out _ G.out
  go_wp2_with fail
  refine (k3 _).mono ?_
  rintro e w7 ⟨rfl, hf⟩
  have G := Lib.hid (G.out.trans hf)
  have F := Lib.hid (F.out.trans hf); obtain ⟨z1_0, z1_1, z1_2, z1_3⟩ := (HZ1.out _ F.out).c4; obtain ⟨z2_0, z2_1, z2_2⟩ := (HZ2.out _ F.out).c3
  obtain ⟨a0, a1, a2, a3⟩ := HZ6.out _ G.out
  obtain ⟨b0, b1, b2, b3⟩ := HZ7.out _ G.out
  clear k1 k2 k3
  go_wp2_with (go_at_call 18; first
    | ((with_reducible refine (q1 _).mono ?_); rintro e w8 ⟨rfl, hf⟩; have G := Lib.hid (G.out.trans hf); have F := Lib.hid (F.out.trans hf); obtain ⟨z1_0, z1_1, z1_2, z1_3⟩ := (HZ1.out _ F.out).c4; obtain ⟨z2_0, z2_1, z2_2⟩ := (HZ2.out _ F.out).c3; obtain ⟨a0, a1, a2, a3⟩ := HZ6.out _ G.out; obtain ⟨b0, b1, b2, b3⟩ := HZ7.out _ G.out)
    | ((with_reducible refine (q2 _).mono ?_); rintro e w8 ⟨rfl, hf⟩; have G := Lib.hid (G.out.trans hf); have F := Lib.hid (F.out.trans hf); obtain ⟨z1_0, z1_1, z1_2, z1_3⟩ := (HZ1.out _ F.out).c4; obtain ⟨z2_0, z2_1, z2_2⟩ := (HZ2.out _ F.out).c3; obtain ⟨a0, a1, a2, a3⟩ := HZ6.out _ G.out; obtain ⟨b0, b1, b2, b3⟩ := HZ7.out _ G.out)
    | ((with_reducible refine (q3 _).mono ?_); rintro e w8 ⟨rfl, hf⟩; have G := Lib.hid (G.out.trans hf); have F := Lib.hid (F.out.trans hf); obtain ⟨z1_0, z1_1, z1_2, z1_3⟩ := (HZ1.out _ F.out).c4; obtain ⟨z2_0, z2_1, z2_2⟩ := (HZ2.out _ F.out).c3; obtain ⟨a0, a1, a2, a3⟩ := HZ6.out _ G.out; obtain ⟨b0, b1, b2, b3⟩ := HZ7.out _ G.out)
    | ((with_reducible refine (q4 _).mono ?_); rintro e w8 ⟨rfl, hf⟩; have G := Lib.hid (G.out.trans hf); have F := Lib.hid (F.out.trans hf); obtain ⟨z1_0, z1_1, z1_2, z1_3⟩ := (HZ1.out _ F.out).c4; obtain ⟨z2_0, z2_1, z2_2⟩ := (HZ2.out _ F.out).c3; obtain ⟨a0, a1, a2, a3⟩ := HZ6.out _ G.out; obtain ⟨b0, b1, b2, b3⟩ := HZ7.out _ G.out)
    | ((with_reducible refine (q5 _).mono ?_); rintro e w8 ⟨rfl, hf⟩; have G := Lib.hid (G.out.trans hf); have F := Lib.hid (F.out.trans hf); obtain ⟨z1_0, z1_1, z1_2, z1_3⟩ := (HZ1.out _ F.out).c4; obtain ⟨z2_0, z2_1, z2_2⟩ := (HZ2.out _ F.out).c3; obtain ⟨a0, a1, a2, a3⟩ := HZ6.out _ G.out; obtain ⟨b0, b1, b2, b3⟩ := HZ7.out _ G.out))
  refine (kr _).mono ?_
  rintro e w9 ⟨rfl, hf⟩
  have G := Lib.hid (G.out.trans hf)
  have F := Lib.hid (F.out.trans hf); obtain ⟨z1_0, z1_1, z1_2, z1_3⟩ := (HZ1.out _ F.out).c4; obtain ⟨z2_0, z2_1, z2_2⟩ := (HZ2.out _ F.out).c3
  obtain ⟨a0, a1, a2, a3⟩ := HZ6.out _ G.out
  obtain ⟨b0, b1, b2, b3⟩ := HZ7.out _ G.out
  clear kr q1 q2 q3 q4 q5
  have hl1 := (HZ1.out _ F.out).lt
  have hl6 := (B6.out.fr G.out id).lt
  have hl7 := (B7.out.fr G.out id).lt
  have hc := HC.out
  clear HC hf
  rcases hc with ⟨rfl, rfl, rfl⟩ | ⟨rfl, rfl, rfl⟩ | ⟨rfl, rfl, rfl⟩
  all_goals
    go_wp2_with fail
    clear z1_0 z1_1 z1_2 z1_3 z2_0 z2_1 z2_2 a0 a1 a2 a3 b0 b1 b2 b3 hl1 hl6 hl7
    have G2 := Lib.hid ((G.out.alloc (.cells #[.bool s3, .int .u64 (h3 : Int), .int .u64 (l3 : Int), .int .i64 m3] 26)).alloc (.cells #[.bool s4, .int .u64 (h4 : Int), .int .u64 (l4 : Int), .int .i64 m4] 26))
    have F2 := Lib.hid ((F.out.alloc (.cells #[.bool s3, .int .u64 (h3 : Int), .int .u64 (l3 : Int), .int .i64 m3] 26)).alloc (.cells #[.bool s4, .int .u64 (h4 : Int), .int .u64 (l4 : Int), .int .i64 m4] 26))
    have B14 := Lib.hid ((Blk.new w9 26 #[.bool s3, .int .u64 (h3 : Int), .int .u64 (l3 : Int), .int .i64 m3]).alloc (.cells #[.bool s4, .int .u64 (h4 : Int), .int .u64 (l4 : Int), .int .i64 m4] 26))
    have B15 := Lib.hid (Blk.alloc2 w9 (.cells #[.bool s3, .int .u64 (h3 : Int), .int .u64 (l3 : Int), .int .i64 m3] 26) 26 #[.bool s4, .int .u64 (h4 : Int), .int .u64 (l4 : Int), .int .i64 m4])
    clear G F
    generalize World.alloc (w9.alloc _) _ = w10 at *
    generalize w9.heap.size + 1 = g15 at *
    generalize w9.heap.size = g14 at *
    have G := G2
    have F := F2
    have HZ14 := Lib.hid fun (W : World) (hf : Fr N0 w10 W) => (B14.out.fr hf id).c4
    have HZ15 := Lib.hid fun (W : World) (hf : Fr N0 w10 W) => (B15.out.fr hf id).c4
    have K := Lib.hid (Fr.refl N0 w10)
    clear G2 F2
    refine (r1 _).mono ?_
    rintro e w11 ⟨rfl, hf⟩
    have G := Lib.hid (G.out.trans hf)
    have K := Lib.hid (K.out.trans hf)
    have F := Lib.hid (F.out.trans hf); obtain ⟨z1_0, z1_1, z1_2, z1_3⟩ := (HZ1.out _ F.out).c4; obtain ⟨z2_0, z2_1, z2_2⟩ := (HZ2.out _ F.out).c3
    obtain ⟨a0, a1, a2, a3⟩ := HZ6.out _ G.out
    obtain ⟨b0, b1, b2, b3⟩ := HZ7.out _ G.out
    obtain ⟨c0, c1, c2, c3⟩ := HZ14.out _ K.out
    obtain ⟨d0, d1, d2, d3⟩ := HZ15.out _ K.out
    go_wp2_with (go_at_call 26; refine (r2 _).mono ?_; rintro e w12 ⟨rfl, hf⟩; have G := Lib.hid (G.out.trans hf); have K := Lib.hid (K.out.trans hf); have F := Lib.hid (F.out.trans hf); obtain ⟨z1_0, z1_1, z1_2, z1_3⟩ := (HZ1.out _ F.out).c4; obtain ⟨z2_0, z2_1, z2_2⟩ := (HZ2.out _ F.out).c3; obtain ⟨a0, a1, a2, a3⟩ := HZ6.out _ G.out; obtain ⟨b0, b1, b2, b3⟩ := HZ7.out _ G.out; obtain ⟨c0, c1, c2, c3⟩ := HZ14.out _ K.out; obtain ⟨d0, d1, d2, d3⟩ := HZ15.out _ K.out)
    go_ret
    exact ⟨rfl, HF1.out.trans F.out⟩
theorem halves_walk (W : World) (hS : W.ShapedOpen Tryd.prog) (ht : T10 W) (A : Array Value) (ra : Rd Tryd.prog W 26 A.toList) (C : Array Value) (rc : Rd Tryd.prog W 24 C.toList) :
    Calls Tryd.prog 6 #[.agg A, .agg C] W fun e w' => e = .returned (.bool true) ∧ Below W.heap.size W w' := by
  obtain ⟨p, ep, hp⟩ := rd_px ra
  obtain ⟨a, ea, ha⟩ := rd_ad rc
  rw [px_arr ep, ad_arr ea]
  obtain ⟨m, hm⟩ := mx_of hS
  by_cases hf : fullP p = true
  · exact (halves_full p a hp W m hm ht hf).mono fun e w' ⟨he, hf⟩ => ⟨he, hf.below (Nat.le_refl _) fun _ _ h => h.elim⟩
  · have hvt : validP p = true ∧ p.bits ≠ widthA p.ad := by
      unfold fullP at hf
      simp at hf
      exact hf
    obtain ⟨hvt, hne⟩ := hvt
    obtain ⟨j1, j2, j3, j4, j5, j6, j7, j8, j9⟩ := halves_law hvt hp.ad hne ha
    obtain ⟨n1, n2, n3, n4, n5⟩ := half_num hvt hp.ad hne
    obtain ⟨k1, k2, k3, k4⟩ := (validP_iff hp.ad).1 hvt
    have hw : widthA p.ad ≤ 128 := by unfold widthA; split <;> omega
    have hx : (lowP p).ok := ⟨hp.ad, by unfold lowP; show _ ≤ p.bits + 1; omega, by unfold lowP; show p.bits + 1 ≤ _; omega⟩
    have hy : (highP p).ok := ⟨n2, by unfold highP; show _ ≤ p.bits + 1; omega, by unfold highP; show p.bits + 1 ≤ _; omega⟩
    have hh : halvesP p = (lowP p, highP p, 0) := by unfold halvesP; rw [if_neg hf]
    refine (halves_part p _ _ a hp hx hy ha W m hm ht hh _ _ _ rfl rfl rfl ?_ j3 j4 j5 j6 j7 j8 j9).mono fun e w' ⟨he, hf⟩ => ⟨he, hf.below (Nat.le_refl _) fun _ _ h => h.elim⟩
    rw [j1]
    revert j2
    cases holdsP (lowP p) a <;> cases holdsP (highP p) a <;> simp
end Go.Proofs.YtndjijadalkidaaDoor
