/- rib.Better, and as an order. -/
import Derived.Test.YtnklbeigikcfkaaGreatDoorEq
namespace Go.Proofs.YtnklbeigikcfkaaGreatDoor
open Go.Proofs Go.RowKit
/-- The library's own variable: the distances. -/
def Dst (w : World) : Prop := ∀ i : Nat, i < 5 → w.cell? ⟨0, i, none⟩ = some (.int .i64 (distP (i : Int)))
theorem Dst.fr {S : Nat → Prop} {w W : World} (h : Dst w) (hF : Fr S w W) (hS : ¬ S 0) : Dst W := fun i hi => by
  rw [hF.cell (p := ⟨0, i, none⟩) (World.block_lt_of_cell? _ _ (h i hi)) hS]
  exact h i hi
theorem Dst.n0 {w W : World} (h : Dst w) (hF : Fr N0 w W) : Dst W := h.fr hF id
section
variable {w : World}
set_option maxHeartbeats 1600000 in
set_option maxRecDepth 100000 in
theorem dst_ (p : Int) (hp : I64 p) (hd : Dst w) : Calls Tryz.prog 47 #[.int .i64 p] w fun e w' => e = .returned (.int .i64 (distP p)) ∧ Fr N0 w w' := by
  obtain ⟨h1, h2⟩ := hp
  by_cases h3 : p < 0
  · have e : distP p = 255 := by unfold distP; repeat rw [if_neg (by omega)]
    rw [e]
    go_enter Tryz.func47, Tryz.ntmps47
    go_wp2_with fail
    go_ret
    exact ⟨rfl, Fr.refl _ _⟩
  · by_cases h4 : 5 ≤ p
    · have e : distP p = 255 := by unfold distP; repeat rw [if_neg (by omega)]
      rw [e]
      go_enter Tryz.func47, Tryz.ntmps47
      go_wp2_with fail
      go_ret
      exact ⟨rfl, Fr.refl _ _⟩
    · obtain ⟨u, rfl⟩ : ∃ u : Nat, p = u := ⟨p.toNat, by omega⟩
      have hu : u < 5 := by omega
      have hc := hd u hu
      generalize distP (u : Int) = d at *
      clear hd
      go_enter Tryz.func47, Tryz.ntmps47
      go_wp2_with fail
      go_ret
      exact ⟨rfl, Fr.refl _ _⟩
set_option maxHeartbeats 3200000 in
set_option maxRecDepth 100000 in
theorem bet_ (x y : Pa) (hx : x.ok) (hy : y.ok) (hd : Dst w) : Calls Tryz.prog 24 #[paV x, paV y] w fun e w' => e = .returned (.bool (betP x y)) ∧ Fr N0 w w' := by
  have hpx := hx.pr
  have hpy := hy.pr
  have c1 := fun (W : World) (hW : Fr N0 w W) => dst_ (w := W) x.proto hpx (hd.n0 hW)
  have c2 := fun (W : World) (hW : Fr N0 w W) => dst_ (w := W) y.proto hpy (hd.n0 hW)
  have HB := Lib.hid (show betP x y = lexB (keyP x) (keyP y) from rfl)
  obtain ⟨p, m, ⟨s, h, l⟩, o, a⟩ := x
  obtain ⟨p', m', ⟨s', h', l'⟩, o', a'⟩ := y
  unfold keyP at HB
  simp only at *
  obtain ⟨d, hd1⟩ : ∃ d, d = distP p := ⟨_, rfl⟩
  obtain ⟨d', hd2⟩ : ∃ d, d = distP p' := ⟨_, rfl⟩
  rw [← hd1] at c1 HB
  rw [← hd2] at c2 HB
  generalize betP _ _ = r at *
  clear hx hy hd hpx hpy hd1 hd2
  go_enter Tryz.func24, Tryz.ntmps24
  unfold paV
  go_wp2_with fail
  have HA1 := Lib.hid ((Blk.new w 34 #[Value.int .i64 p, Value.int .i64 m, Value.bool s, Value.int .u64 (h : Int), Value.int .u64 (l : Int), Value.int .i64 o, Value.bool a]).alloc (.cells #[Value.int .i64 p', Value.int .i64 m', Value.bool s', Value.int .u64 (h' : Int), Value.int .u64 (l' : Int), Value.int .i64 o', Value.bool a'] 34))
  have HA2 := Lib.hid (Blk.alloc2 w (.cells #[Value.int .i64 p, Value.int .i64 m, Value.bool s, Value.int .u64 (h : Int), Value.int .u64 (l : Int), Value.int .i64 o, Value.bool a] 34) 34 #[Value.int .i64 p', Value.int .i64 m', Value.bool s', Value.int .u64 (h' : Int), Value.int .u64 (l' : Int), Value.int .i64 o', Value.bool a'])
  have HF1 := Lib.hid (Fr.alloc (Fr.alloc (Fr.refl N0 w) (.cells #[Value.int .i64 p, Value.int .i64 m, Value.bool s, Value.int .u64 (h : Int), Value.int .u64 (l : Int), Value.int .i64 o, Value.bool a] 34)) (.cells #[Value.int .i64 p', Value.int .i64 m', Value.bool s', Value.int .u64 (h' : Int), Value.int .u64 (l' : Int), Value.int .i64 o', Value.bool a'] 34))
  generalize World.alloc (w.alloc _) _ = w1 at *
  obtain ⟨g2, hg2⟩ : ∃ g2, g2 = w.heap.size + 1 := ⟨_, rfl⟩
  rw [← hg2] at HA2 ⊢
  have HG2 : Hid (w.heap.size ≤ g2) := Lib.hid (by omega)
  obtain ⟨g1, hg1⟩ : ∃ g1, g1 = w.heap.size := ⟨_, rfl⟩
  rw [← hg1] at HA1 ⊢
  have HG1 : Hid (w.heap.size ≤ g1) := Lib.hid (by omega)
  have HN1_2 : Hid (g1 ≠ g2) := Lib.hid (by omega)
  clear hg1 hg2
  have HZ1 : Hid (∀ W, Fr N0 w1 W → Blk W g1 34 #[Value.int .i64 p, Value.int .i64 m, Value.bool s, Value.int .u64 (h : Int), Value.int .u64 (l : Int), Value.int .i64 o, Value.bool a]) := Lib.hid fun W hf => HA1.out.fr hf id
  have HZ2 : Hid (∀ W, Fr N0 w1 W → Blk W g2 34 #[Value.int .i64 p', Value.int .i64 m', Value.bool s', Value.int .u64 (h' : Int), Value.int .u64 (l' : Int), Value.int .i64 o', Value.bool a']) := Lib.hid fun W hf => HA2.out.fr hf id
  have F := Lib.hid (Fr.refl N0 w1)
  have z1_0 := fun x : Fam w1 => (HZ1.out x.w x.fr).c7.1
  have z1_1 := fun x : Fam w1 => (HZ1.out x.w x.fr).c7.2.1
  have z1_2 := fun x : Fam w1 => (HZ1.out x.w x.fr).c7.2.2.1
  have z1_3 := fun x : Fam w1 => (HZ1.out x.w x.fr).c7.2.2.2.1
  have z1_4 := fun x : Fam w1 => (HZ1.out x.w x.fr).c7.2.2.2.2.1
  have z1_5 := fun x : Fam w1 => (HZ1.out x.w x.fr).c7.2.2.2.2.2.1
  have z1_6 := fun x : Fam w1 => (HZ1.out x.w x.fr).c7.2.2.2.2.2.2
  have z2_0 := fun x : Fam w1 => (HZ2.out x.w x.fr).c7.1
  have z2_1 := fun x : Fam w1 => (HZ2.out x.w x.fr).c7.2.1
  have z2_2 := fun x : Fam w1 => (HZ2.out x.w x.fr).c7.2.2.1
  have z2_3 := fun x : Fam w1 => (HZ2.out x.w x.fr).c7.2.2.2.1
  have z2_4 := fun x : Fam w1 => (HZ2.out x.w x.fr).c7.2.2.2.2.1
  have z2_5 := fun x : Fam w1 => (HZ2.out x.w x.fr).c7.2.2.2.2.2.1
  have z2_6 := fun x : Fam w1 => (HZ2.out x.w x.fr).c7.2.2.2.2.2.2
  have q1 := fun x : Fam w1 => c1 x.w (HF1.out.trans x.fr)
  have q2 := fun x : Fam w1 => c2 x.w (HF1.out.trans x.fr)
  clear c1 c2
  refine wp_region_fam (by kernel_rfl) (by kernel_rfl) ?_
  repeat (go_big_quiet_step ((first
    | (go_at_call_of 47 p; exact fam_call (q1 _))
    | (go_at_call_of 47 p'; exact fam_call (q2 _)))))
  first | refine wpQuiet_nil ?_ | (go_big_quiet_want; go_big_quiet_op; done)
  rintro _ ⟨xq, rfl⟩
  have HF2 := Lib.hid (HF1.out.trans xq.fr)
  have hc : d ≠ d' ∨ (d = d' ∧ m ≠ m') ∨ (d = d' ∧ m = m' ∧ o ≠ o') ∨ (d = d' ∧ m = m' ∧ o = o' ∧ s ≠ s') ∨ (d = d' ∧ m = m' ∧ o = o' ∧ s = s' ∧ h ≠ h') ∨ (d = d' ∧ m = m' ∧ o = o' ∧ s = s' ∧ h = h' ∧ l ≠ l') ∨ (d = d' ∧ m = m' ∧ o = o' ∧ s = s' ∧ h = h' ∧ l = l') := by
    by_cases e1 : d = d' <;> by_cases e2 : m = m' <;> by_cases e3 : o = o' <;> by_cases e4 : s = s' <;> by_cases e5 : h = h' <;> by_cases e6 : l = l' <;> simp [e1, e2, e3, e4, e5, e6]
  rcases hc with e | ⟨rfl, e⟩ | ⟨rfl, rfl, e⟩ | ⟨rfl, rfl, rfl, e⟩ | ⟨rfl, rfl, rfl, rfl, e⟩ | ⟨rfl, rfl, rfl, rfl, rfl, e⟩ | ⟨rfl, rfl, rfl, rfl, rfl, rfl⟩
  · have t1 : (d != d') = true := by simpa using e
    have t2 : (d == d') = false := by simpa using e
    go_wp2_with fail
    go_ret
    exact ⟨retb (by rw [HB.out, lexB, if_neg e]), HF2.out⟩
  · have t1 : (m != m') = true := by simpa using e
    have t2 : (m == m') = false := by simpa using e
    go_wp2_with fail
    go_ret
    exact ⟨retb (by rw [HB.out, lexB, if_pos rfl, lexB, if_neg e]), HF2.out⟩
  · have t1 : (o != o') = true := by simpa using e
    have t2 : (o == o') = false := by simpa using e
    go_wp2_with fail
    go_ret
    exact ⟨retb (by rw [HB.out, lexB, if_pos rfl, lexB, if_pos rfl, lexB, if_neg e]), HF2.out⟩
  · have HE := Lib.hid (show r = s' by
      rw [HB.out, lexB, if_pos rfl, lexB, if_pos rfl, lexB, if_pos rfl, lexB]
      cases s <;> cases s' <;> simp_all [b2i])
    have t1 : (s != s') = true := by cases s <;> cases s' <;> simp_all
    have t2 : (s == s') = false := by cases s <;> cases s' <;> simp_all
    go_wp2_with fail
    go_ret
    exact ⟨retb HE.out.symm, HF2.out⟩
  · have t1 : ((h : Int) != (h' : Int)) = true := by rw [bne_iff_ne]; omega
    have t2 : ((h : Int) == (h' : Int)) = false := by rw [beq_eq_false_iff_ne]; omega
    have HE := Lib.hid (show ¬ ((h : Int) = (h' : Int)) by omega)
    go_wp2_with fail
    go_ret
    exact ⟨retb (by rw [HB.out, lexB, if_pos rfl, lexB, if_pos rfl, lexB, if_pos rfl, lexB, if_pos rfl, lexB, if_neg HE.out]; exact decide_eq_decide.2 (by omega)), HF2.out⟩
  · have t1 : ((l : Int) != (l' : Int)) = true := by rw [bne_iff_ne]; omega
    have t2 : ((l : Int) == (l' : Int)) = false := by rw [beq_eq_false_iff_ne]; omega
    have HE := Lib.hid (show ¬ ((l : Int) = (l' : Int)) by omega)
    go_wp2_with fail
    go_ret
    exact ⟨retb (by rw [HB.out, lexB, if_pos rfl, lexB, if_pos rfl, lexB, if_pos rfl, lexB, if_pos rfl, lexB, if_pos rfl, lexB, if_neg HE.out]; exact decide_eq_decide.2 (by omega)), HF2.out⟩
  · have HE := Lib.hid (show r = (!a && a') by
      rw [HB.out, lexB, if_pos rfl, lexB, if_pos rfl, lexB, if_pos rfl, lexB, if_pos rfl, lexB, if_pos rfl, lexB, if_pos rfl, lexB]
      cases a <;> cases a' <;> simp [b2i, lexB])
    cases a <;> cases a'
    all_goals
      go_wp2_with fail
      go_ret
      exact ⟨retb HE.out.symm, HF2.out⟩
/-- What the order says of two paths. -/
def ordP (x y : Pa) : Int := if betP x y = true then -1 else if betP y x = true then 1 else 0
set_option maxHeartbeats 3200000 in
set_option maxRecDepth 100000 in
theorem ord_ (r : Value) (x y : Pa) (hx : x.ok) (hy : y.ok) (hd : Dst w) (hr : r = .agg #[]) : Calls Tryz.prog 41 #[r, paV x, paV y] w fun e w' => e = .returned (.int .i64 (ordP x y)) ∧ Fr N0 w w' := by
  subst hr
  have c1 := fun (W : World) (hW : Fr N0 w W) => bet_ (w := W) x y hx hy (hd.n0 hW)
  have c2 := fun (W : World) (hW : Fr N0 w W) => bet_ (w := W) y x hy hx (hd.n0 hW)
  have HB := Lib.hid (show ordP x y = if betP x y = true then -1 else if betP y x = true then 1 else 0 from rfl)
  generalize betP x y = r1 at *
  generalize betP y x = r2 at *
  generalize ordP x y = r at *
  obtain ⟨p, m, ⟨s, h, l⟩, o, a⟩ := x
  obtain ⟨p', m', ⟨s', h', l'⟩, o', a'⟩ := y
  unfold paV at *
  simp only at *
  clear hx hy hd
  cases r1
  · cases r2
    all_goals
      go_enter Tryz.func41, Tryz.ntmps41
      go_wp2_with fail
      have HA1 := Lib.hid (((Blk.new w 77 #[]).alloc (.cells #[Value.int .i64 p, Value.int .i64 m, Value.bool s, Value.int .u64 (h : Int), Value.int .u64 (l : Int), Value.int .i64 o, Value.bool a] 34)).alloc (.cells #[Value.int .i64 p', Value.int .i64 m', Value.bool s', Value.int .u64 (h' : Int), Value.int .u64 (l' : Int), Value.int .i64 o', Value.bool a'] 34))
      have HA2 := Lib.hid ((Blk.alloc2 w (.cells #[] 77) 34 #[Value.int .i64 p, Value.int .i64 m, Value.bool s, Value.int .u64 (h : Int), Value.int .u64 (l : Int), Value.int .i64 o, Value.bool a]).alloc (.cells #[Value.int .i64 p', Value.int .i64 m', Value.bool s', Value.int .u64 (h' : Int), Value.int .u64 (l' : Int), Value.int .i64 o', Value.bool a'] 34))
      have HA3 := Lib.hid (Blk.alloc3 w (.cells #[] 77) (.cells #[Value.int .i64 p, Value.int .i64 m, Value.bool s, Value.int .u64 (h : Int), Value.int .u64 (l : Int), Value.int .i64 o, Value.bool a] 34) 34 #[Value.int .i64 p', Value.int .i64 m', Value.bool s', Value.int .u64 (h' : Int), Value.int .u64 (l' : Int), Value.int .i64 o', Value.bool a'])
      have HF1 := Lib.hid (Fr.alloc (Fr.alloc (Fr.alloc (Fr.refl N0 w) (.cells #[] 77)) (.cells #[Value.int .i64 p, Value.int .i64 m, Value.bool s, Value.int .u64 (h : Int), Value.int .u64 (l : Int), Value.int .i64 o, Value.bool a] 34)) (.cells #[Value.int .i64 p', Value.int .i64 m', Value.bool s', Value.int .u64 (h' : Int), Value.int .u64 (l' : Int), Value.int .i64 o', Value.bool a'] 34))
      generalize World.alloc (World.alloc (w.alloc _) _) _ = w1 at *
      obtain ⟨g3, hg3⟩ : ∃ g3, g3 = w.heap.size + 2 := ⟨_, rfl⟩
      rw [← hg3] at HA3 ⊢
      have HG3 : Hid (w.heap.size ≤ g3) := Lib.hid (by omega)
      obtain ⟨g2, hg2⟩ : ∃ g2, g2 = w.heap.size + 1 := ⟨_, rfl⟩
      rw [← hg2] at HA2 ⊢
      have HG2 : Hid (w.heap.size ≤ g2) := Lib.hid (by omega)
      obtain ⟨g1, hg1⟩ : ∃ g1, g1 = w.heap.size := ⟨_, rfl⟩
      rw [← hg1] at HA1 ⊢
      have HG1 : Hid (w.heap.size ≤ g1) := Lib.hid (by omega)
      have HN2_3 : Hid (g2 ≠ g3) := Lib.hid (by omega)
      have HN1_2 : Hid (g1 ≠ g2) := Lib.hid (by omega)
      have HN1_3 : Hid (g1 ≠ g3) := Lib.hid (by omega)
      clear hg1 hg2 hg3
      have HZ1 : Hid (∀ W, Fr N0 w1 W → Blk W g1 77 #[]) := Lib.hid fun W hf => HA1.out.fr hf id
      have HZ2 : Hid (∀ W, Fr N0 w1 W → Blk W g2 34 #[Value.int .i64 p, Value.int .i64 m, Value.bool s, Value.int .u64 (h : Int), Value.int .u64 (l : Int), Value.int .i64 o, Value.bool a]) := Lib.hid fun W hf => HA2.out.fr hf id
      have HZ3 : Hid (∀ W, Fr N0 w1 W → Blk W g3 34 #[Value.int .i64 p', Value.int .i64 m', Value.bool s', Value.int .u64 (h' : Int), Value.int .u64 (l' : Int), Value.int .i64 o', Value.bool a']) := Lib.hid fun W hf => HA3.out.fr hf id
      have F := Lib.hid (Fr.refl N0 w1)
      refine (c1 _ HF1.out).mono ?_
      rintro e w2 ⟨rfl, hf⟩
      have F2 := Lib.hid (HF1.out.trans hf)
      obtain ⟨y0, y1, y2, y3, y4, y5, y6⟩ := (HZ2.out _ hf).c7
      obtain ⟨x0, x1, x2, x3, x4, x5, x6⟩ := (HZ3.out _ hf).c7
      go_wp2_with fail
      refine (c2 _ F2.out).mono ?_
      rintro e w3 ⟨rfl, hf2⟩
      go_wp2_with fail
      go_ret
      exact ⟨by rw [HB.out]; rfl, F2.out.trans hf2⟩
  · go_enter Tryz.func41, Tryz.ntmps41
    go_wp2_with fail
    have HA1 := Lib.hid (((Blk.new w 77 #[]).alloc (.cells #[Value.int .i64 p, Value.int .i64 m, Value.bool s, Value.int .u64 (h : Int), Value.int .u64 (l : Int), Value.int .i64 o, Value.bool a] 34)).alloc (.cells #[Value.int .i64 p', Value.int .i64 m', Value.bool s', Value.int .u64 (h' : Int), Value.int .u64 (l' : Int), Value.int .i64 o', Value.bool a'] 34))
    have HA2 := Lib.hid ((Blk.alloc2 w (.cells #[] 77) 34 #[Value.int .i64 p, Value.int .i64 m, Value.bool s, Value.int .u64 (h : Int), Value.int .u64 (l : Int), Value.int .i64 o, Value.bool a]).alloc (.cells #[Value.int .i64 p', Value.int .i64 m', Value.bool s', Value.int .u64 (h' : Int), Value.int .u64 (l' : Int), Value.int .i64 o', Value.bool a'] 34))
    have HA3 := Lib.hid (Blk.alloc3 w (.cells #[] 77) (.cells #[Value.int .i64 p, Value.int .i64 m, Value.bool s, Value.int .u64 (h : Int), Value.int .u64 (l : Int), Value.int .i64 o, Value.bool a] 34) 34 #[Value.int .i64 p', Value.int .i64 m', Value.bool s', Value.int .u64 (h' : Int), Value.int .u64 (l' : Int), Value.int .i64 o', Value.bool a'])
    have HF1 := Lib.hid (Fr.alloc (Fr.alloc (Fr.alloc (Fr.refl N0 w) (.cells #[] 77)) (.cells #[Value.int .i64 p, Value.int .i64 m, Value.bool s, Value.int .u64 (h : Int), Value.int .u64 (l : Int), Value.int .i64 o, Value.bool a] 34)) (.cells #[Value.int .i64 p', Value.int .i64 m', Value.bool s', Value.int .u64 (h' : Int), Value.int .u64 (l' : Int), Value.int .i64 o', Value.bool a'] 34))
    generalize World.alloc (World.alloc (w.alloc _) _) _ = w1 at *
    obtain ⟨g3, hg3⟩ : ∃ g3, g3 = w.heap.size + 2 := ⟨_, rfl⟩
    rw [← hg3] at HA3 ⊢
    have HG3 : Hid (w.heap.size ≤ g3) := Lib.hid (by omega)
    obtain ⟨g2, hg2⟩ : ∃ g2, g2 = w.heap.size + 1 := ⟨_, rfl⟩
    rw [← hg2] at HA2 ⊢
    have HG2 : Hid (w.heap.size ≤ g2) := Lib.hid (by omega)
    obtain ⟨g1, hg1⟩ : ∃ g1, g1 = w.heap.size := ⟨_, rfl⟩
    rw [← hg1] at HA1 ⊢
    have HG1 : Hid (w.heap.size ≤ g1) := Lib.hid (by omega)
    have HN2_3 : Hid (g2 ≠ g3) := Lib.hid (by omega)
    have HN1_2 : Hid (g1 ≠ g2) := Lib.hid (by omega)
    have HN1_3 : Hid (g1 ≠ g3) := Lib.hid (by omega)
    clear hg1 hg2 hg3
    have HZ1 : Hid (∀ W, Fr N0 w1 W → Blk W g1 77 #[]) := Lib.hid fun W hf => HA1.out.fr hf id
    have HZ2 : Hid (∀ W, Fr N0 w1 W → Blk W g2 34 #[Value.int .i64 p, Value.int .i64 m, Value.bool s, Value.int .u64 (h : Int), Value.int .u64 (l : Int), Value.int .i64 o, Value.bool a]) := Lib.hid fun W hf => HA2.out.fr hf id
    have HZ3 : Hid (∀ W, Fr N0 w1 W → Blk W g3 34 #[Value.int .i64 p', Value.int .i64 m', Value.bool s', Value.int .u64 (h' : Int), Value.int .u64 (l' : Int), Value.int .i64 o', Value.bool a']) := Lib.hid fun W hf => HA3.out.fr hf id
    have F := Lib.hid (Fr.refl N0 w1)
    refine (c1 _ HF1.out).mono ?_
    rintro e w2 ⟨rfl, hf⟩
    go_wp2_with fail
    go_ret
    exact ⟨by rw [HB.out]; rfl, HF1.out.trans hf⟩
end
end Go.Proofs.YtnklbeigikcfkaaGreatDoor
