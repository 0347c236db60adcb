/- The document's Halves. -/
import Derived.Test.YtndjijadalkidaaDoorRq
import Derived.Test.YtndjijadalkidaaDoorHa
import Derived.Deep.RegionHeld3
namespace Go.Proofs.YtndjijadalkidaaDoor
open Go.RowKit
theorem bit_high0 {x j e : Nat} (hd : 2 ^ j ∣ x) (hj : 1 ≤ j) (he : j ≤ e) : (x + 2 ^ (j - 1)) / 2 ^ e % 2 = x / 2 ^ e % 2 := by
  obtain ⟨q, rfl⟩ := hd
  obtain ⟨d, rfl⟩ := Nat.exists_eq_add_of_le he
  have h1 : 2 ^ (j - 1) < 2 ^ j := Nat.pow_lt_pow_right (by omega) (by omega)
  rw [Nat.pow_add, ← Nat.div_div_eq_div_mul, ← Nat.div_div_eq_div_mul, Nat.mul_add_div (Nat.two_pow_pos j), Nat.div_eq_of_lt h1, Nat.add_zero, Nat.mul_div_cancel_left _ (Nat.two_pow_pos j)]
theorem bit_high1 {x j : Nat} (hd : 2 ^ j ∣ x) (hj : 1 ≤ j) : (x + 2 ^ (j - 1)) / 2 ^ (j - 1) % 2 = 1 := by
  obtain ⟨q, rfl⟩ := hd
  have e : 2 ^ j = 2 ^ (j - 1) * 2 := by rw [← Nat.pow_succ]; congr 1; omega
  rw [e, Nat.mul_assoc, Nat.mul_add_div (Nat.two_pow_pos _), Nat.div_self (Nat.two_pow_pos _)]
  omega
theorem bit_high2 {x j e : Nat} (hd : 2 ^ j ∣ x) (_hj : 1 ≤ j) (he : e < j - 1) : (x + 2 ^ (j - 1)) / 2 ^ e % 2 = 0 := by
  refine bit_zero_of_div ?_
  have h1 : 2 ^ (e + 1) ∣ 2 ^ (j - 1) := Nat.pow_dvd_pow 2 (by omega)
  have h2 : 2 ^ (e + 1) ∣ 2 ^ j := Nat.pow_dvd_pow 2 (by omega)
  exact (Nat.dvd_add_right (Nat.dvd_trans h2 hd)).2 h1
theorem high_bits {p : Px} (hv : validP p = true) (hp : p.ad.ok) (hf : p.bits ≠ widthA p.ad) : (preB p.ad p.bits.toNat).set p.bits.toNat 1 = bitsA (highA p) := by
  obtain ⟨n1, n2, n3, n4, n5⟩ := half_num hv hp hf
  obtain ⟨k1, k2, k3, k4⟩ := (validP_iff hp).1 hv
  have hw : widthA (highA p) = widthA p.ad := by unfold widthA; rw [high_six]
  have hj : p.j = widthA p.ad - p.bits.toNat := rfl
  obtain ⟨k, hk⟩ : ∃ k : Nat, p.bits.toNat = k := ⟨_, rfl⟩
  rw [hk] at hj ⊢
  have hkw : k < widthA p.ad := by omega
  apply List.ext_getElem?
  intro i
  by_cases hi : i < widthA p.ad
  · rw [bitsA_at (by rw [hw]; exact hi), List.getElem?_set, preB_len]
    rw [bit_num n2 n3 (by rw [hw]; exact hi), hw, n1]
    by_cases e : k = i
    · subst e
      rw [if_pos rfl, if_pos hkw, show widthA p.ad - 1 - k = p.j - 1 by omega, bit_high1 k4 n4]
    · rw [if_neg e, preB_at hi]
      by_cases h2 : i < k
      · rw [if_pos h2, bit_high0 k4 n4 (by omega), bit_num hp k1 hi]
      · rw [if_neg h2, bit_high2 k4 n4 (by omega)]
  · rw [List.getElem?_eq_none (by rw [List.length_set, preB_len]; omega), List.getElem?_eq_none (by rw [bitsA_len, hw]; omega)]
section
variable {w : World}
set_option maxHeartbeats 3200000 in
set_option maxRecDepth 100000 in
theorem rhalv (p : Px) (hp : p.ok) : Calls Tryd.prog 25 #[pxV p] w fun e w' => e = .returned (.tuple #[pxV (halvesP p).1, pxV (halvesP p).2.1, .int .i64 (halvesP p).2.2]) ∧ Fr N0 w w' := by
  have kv := fun w => rvalP (w := w) p hp
  obtain ⟨v, hv⟩ : ∃ v, v = validP p := ⟨_, rfl⟩
  rw [← hv] at kv
  obtain ⟨wi, hwi⟩ : ∃ wi, wi = widthA p.ad := ⟨_, rfl⟩
  have kw : ∀ w : World, Calls Tryd.prog 33 #[adV p.ad] w fun e w' => e = .returned (.int .i64 (wi : Int)) ∧ Fr N0 w w' := fun w => by rw [hwi]; exact rwid (w := w) p.ad
  by_cases hfull : fullP p = true
  · have hH : halvesP p = (⟨⟨false, 0, 0⟩, 0⟩, ⟨⟨false, 0, 0⟩, 0⟩, 1) := by unfold halvesP; rw [if_pos hfull]
    rw [hH]
    have hc : v = false ∨ (v = true ∧ decide (p.bits = (wi : Int)) = true ∧ (p.bits == (wi : Int)) = true ∧ p.bits = (wi : Int)) := by
      unfold fullP at hfull
      rw [← hv, ← hwi] at hfull
      cases v with
      | false => exact .inl rfl
      | true => simp at hfull; exact .inr ⟨rfl, by simpa using hfull, by simpa using hfull, hfull⟩
    clear hfull hH hp hv hwi
    obtain ⟨⟨s, h, l⟩, m⟩ := p
    unfold pxV adV at *
    simp only at kv kw hc
    go_enter Tryd.func25, Tryd.ntmps25
    go_wp2_with fail
    have HA1 := Lib.hid (((Blk.new w 26 #[Value.bool s, Value.int .u64 (h : Int), Value.int .u64 (l : Int), Value.int .i64 m]).alloc (.cells #[Value.bool false, Value.int .u64 0, Value.int .u64 0, Value.int .i64 0] 26)).alloc (.cells #[Value.bool false, Value.int .u64 0, Value.int .u64 0, Value.int .i64 0] 26))
    have HA2 := Lib.hid ((Blk.alloc2 w (.cells #[Value.bool s, Value.int .u64 (h : Int), Value.int .u64 (l : Int), Value.int .i64 m] 26) 26 #[Value.bool false, Value.int .u64 0, Value.int .u64 0, Value.int .i64 0]).alloc (.cells #[Value.bool false, Value.int .u64 0, Value.int .u64 0, Value.int .i64 0] 26))
    have HA3 := Lib.hid (Blk.alloc3 w (.cells #[Value.bool s, Value.int .u64 (h : Int), Value.int .u64 (l : Int), Value.int .i64 m] 26) (.cells #[Value.bool false, Value.int .u64 0, Value.int .u64 0, Value.int .i64 0] 26) 26 #[Value.bool false, Value.int .u64 0, Value.int .u64 0, Value.int .i64 0])
    have HF1 := Lib.hid (Fr.alloc (Fr.alloc (Fr.alloc (Fr.refl N0 w) (.cells #[Value.bool s, Value.int .u64 (h : Int), Value.int .u64 (l : Int), Value.int .i64 m] 26)) (.cells #[Value.bool false, Value.int .u64 0, Value.int .u64 0, Value.int .i64 0] 26)) (.cells #[Value.bool false, Value.int .u64 0, Value.int .u64 0, Value.int .i64 0] 26))
    generalize World.alloc (World.alloc (w.alloc _) _) _ = w1 at *
    obtain ⟨g3, hg3⟩ : ∃ g3, g3 = w.heap.size + 2 := ⟨_, rfl⟩
    rw [← hg3] at HA3 ⊢
    have HG3 : Hid (w.heap.size ≤ g3) := Lib.hid (by omega)
    obtain ⟨g2, hg2⟩ : ∃ g2, g2 = w.heap.size + 1 := ⟨_, rfl⟩
    rw [← hg2] at HA2 ⊢
    have HG2 : Hid (w.heap.size ≤ g2) := Lib.hid (by omega)
    obtain ⟨g1, hg1⟩ : ∃ g1, g1 = w.heap.size := ⟨_, rfl⟩
    rw [← hg1] at HA1 ⊢
    have HG1 : Hid (w.heap.size ≤ g1) := Lib.hid (by omega)
    have HN2_3 : Hid (g2 ≠ g3) := Lib.hid (by omega)
    have HN1_2 : Hid (g1 ≠ g2) := Lib.hid (by omega)
    have HN1_3 : Hid (g1 ≠ g3) := Lib.hid (by omega)
    clear hg1 hg2 hg3
    have HZ1 : Hid (∀ W, Fr N0 w1 W → Blk W g1 26 #[Value.bool s, Value.int .u64 (h : Int), Value.int .u64 (l : Int), Value.int .i64 m]) := Lib.hid fun W hf => HA1.out.fr hf id
    have HZ2 : Hid (∀ W, Fr N0 w1 W → Blk W g2 26 #[Value.bool false, Value.int .u64 0, Value.int .u64 0, Value.int .i64 0]) := Lib.hid fun W hf => HA2.out.fr hf id
    have HZ3 : Hid (∀ W, Fr N0 w1 W → Blk W g3 26 #[Value.bool false, Value.int .u64 0, Value.int .u64 0, Value.int .i64 0]) := Lib.hid fun W hf => HA3.out.fr hf id
    have F := Lib.hid (Fr.refl N0 w1)
    obtain ⟨z1_0, z1_1, z1_2, z1_3⟩ := (HZ1.out _ F.out).c4
    obtain ⟨z2_0, z2_1, z2_2, z2_3⟩ := (HZ2.out _ F.out).c4
    obtain ⟨z3_0, z3_1, z3_2, z3_3⟩ := (HZ3.out _ F.out).c4
    go_wp2_with (go_at_call 15; refine (kv _).mono ?_; rintro e w2 ⟨rfl, hf⟩; have F := Lib.hid (F.out.trans hf); obtain ⟨z1_0, z1_1, z1_2, z1_3⟩ := (HZ1.out _ F.out).c4; obtain ⟨z2_0, z2_1, z2_2, z2_3⟩ := (HZ2.out _ F.out).c4; obtain ⟨z3_0, z3_1, z3_2, z3_3⟩ := (HZ3.out _ F.out).c4)
    have u0 := fun x : Fam w2 => (HZ1.out x.w (F.out.trans x.fr)).c4.1
    have u1 := fun x : Fam w2 => (HZ1.out x.w (F.out.trans x.fr)).c4.2.1
    have u2 := fun x : Fam w2 => (HZ1.out x.w (F.out.trans x.fr)).c4.2.2.1
    have u3 := fun x : Fam w2 => (HZ1.out x.w (F.out.trans x.fr)).c4.2.2.2
    clear z1_0 z1_1 z1_2 z1_3 z2_0 z2_1 z2_2 z2_3 z3_0 z3_1 z3_2 z3_3 hf kv
    rcases hc with rfl | ⟨rfl, hd, hd2, rfl⟩
    all_goals
      refine wp_region_fam (by kernel_rfl) (by kernel_rfl) ?_
      repeat (go_big_quiet_step ((go_at_call 33; exact fam_call (kw _))))
      first | refine wpQuiet_nil ?_ | (go_big_quiet_want; go_big_quiet_op; done)
      rintro _ ⟨xq, rfl⟩
      have F2 := Lib.hid (F.out.trans xq.fr)
      go_wp2_with (first
        | (refine wpList_store_row rfl 26 _ _ rfl g2 _ rfl rfl _ _ (HZ2.out _ F2.out) rfl rfl (by simp [Value.oneCell']) ?_)
        | (refine wpList_store_row rfl 26 _ _ rfl g3 _ rfl rfl _ _ ((HZ3.out _ F2.out).fr (Fr.setRow (Fr.refl (fun i => i = g2) _) (.inl rfl) _) (fun e => HN2_3.out e.symm)) rfl rfl (by simp [Value.oneCell']) ?_))
      refine ret_cell3 rfl rfl rfl (((HZ2.out _ F2.out).row _).fr (Fr.setRow (Fr.refl (fun i => i = g3) _) (.inl rfl) _) HN2_3.out) (((HZ3.out _ F2.out).fr (Fr.setRow (Fr.refl (fun i => i = g2) _) (.inl rfl) _) (fun e => HN2_3.out e.symm)).row _) Tryd.underlying26 rfl rfl ⟨?_, Fr.setRow (Fr.setRow (HF1.out.trans F2.out) (.inr HG2.out) _) (.inr HG3.out) _⟩
      rfl
  · have hvt : validP p = true ∧ p.bits ≠ widthA p.ad := by
      unfold fullP at hfull
      simp at hfull
      exact hfull
    obtain ⟨hvt, hne⟩ := hvt
    have hH : halvesP p = (lowP p, highP p, 0) := by unfold halvesP; rw [if_neg hfull]
    rw [hH]
    obtain ⟨n1, n2, n3, n4, n5⟩ := half_num hvt hp.ad hne
    obtain ⟨q1, q2, q3, q4⟩ := (validP_iff hp.ad).1 hvt
    have HB0 := high_bits hvt hp.ad hne
    have hwh : widthA (highA p) = wi := by rw [hwi]; unfold widthA; rw [high_six]
    have kof := fun (W : World) (g : Nat) (hB : Blk W g 3 ((bitsA (highA p)).map i64v).toArray) => rof (w := W) (highA p) n2 n3 g wi hwh.symm hB
    rw [high_six] at kof
    have kb := fun (w : World) (i : Int) (h1 : -9223372036854775808 ≤ i) (h2 : i ≤ 9223372036854775807) => rbit (w := w) p.ad hp.ad i h1 h2
    obtain ⟨k, hk⟩ : ∃ k : Nat, p.bits = k := ⟨p.bits.toNat, by omega⟩
    have hkw : k < wi := by omega
    rw [show p.bits.toNat = k by omega] at HB0
    have hw128 : wi ≤ 128 := by rw [hwi]; unfold widthA; split <;> omega
    obtain ⟨i0, hi, hz0, hz1, hz2⟩ := info_parts info3
    have HP0 := Lib.hid (preB_zero p.ad)
    have HPA := Lib.hid fun (j i : Nat) (h : i < widthA p.ad) => preB_at (a := p.ad) (j := j) h
    have HPS := Lib.hid fun (j : Nat) (h : j < widthA p.ad) => preB_set (a := p.ad) h
    have HPL := Lib.hid fun (j : Nat) => preB_len p.ad j
    have hmk := fun W => run_make_rowN (P := Tryd.prog) 58 3 i0 _ Tryd.underlying58 hi hz0 .i64 .i64 wi wi (Nat.le_refl _) (by rw [hz2]; omega) (by omega) W
    rw [hz1] at hmk
    simp only [Nat.mul_one] at hmk
    rw [show (Value.int IntKind.i64 0).cells = #[Value.int IntKind.i64 0] from rfl] at hmk
    unfold lowP highP
    have HBH := Lib.hid HB0
    obtain ⟨hA, hhA⟩ : ∃ hA, hA = highA p := ⟨_, rfl⟩
    rw [← hhA] at HBH kof ⊢
    have hv' : v = true := by rw [hv]; exact hvt
    subst hv'
    rw [← hwi] at HP0 HPA HPS HPL
    clear hH hfull n1 n2 n3 n4 n5 q1 q2 q3 q4 HB0 hwh hhA hvt hne hv hp hwi hi hz0 hz1 hz2
    obtain ⟨⟨s, h, l⟩, m⟩ := p
    obtain ⟨s2, h2, l2⟩ := hA
    have hmk' : m = (k : Int) := hk
    subst hmk'
    unfold pxV adV at *
    simp only at kv kw kof kb HP0 HPA HPS HPL HBH ⊢
    go_enter Tryd.func25, Tryd.ntmps25
    go_wp2_with fail
    have HA1 := Lib.hid (((Blk.new w 26 #[Value.bool s, Value.int .u64 (h : Int), Value.int .u64 (l : Int), Value.int .i64 (k : Int)]).alloc (.cells #[Value.bool false, Value.int .u64 0, Value.int .u64 0, Value.int .i64 0] 26)).alloc (.cells #[Value.bool false, Value.int .u64 0, Value.int .u64 0, Value.int .i64 0] 26))
    have HA2 := Lib.hid ((Blk.alloc2 w (.cells #[Value.bool s, Value.int .u64 (h : Int), Value.int .u64 (l : Int), Value.int .i64 (k : Int)] 26) 26 #[Value.bool false, Value.int .u64 0, Value.int .u64 0, Value.int .i64 0]).alloc (.cells #[Value.bool false, Value.int .u64 0, Value.int .u64 0, Value.int .i64 0] 26))
    have HA3 := Lib.hid (Blk.alloc3 w (.cells #[Value.bool s, Value.int .u64 (h : Int), Value.int .u64 (l : Int), Value.int .i64 (k : Int)] 26) (.cells #[Value.bool false, Value.int .u64 0, Value.int .u64 0, Value.int .i64 0] 26) 26 #[Value.bool false, Value.int .u64 0, Value.int .u64 0, Value.int .i64 0])
    have HF1 := Lib.hid (Fr.alloc (Fr.alloc (Fr.alloc (Fr.refl N0 w) (.cells #[Value.bool s, Value.int .u64 (h : Int), Value.int .u64 (l : Int), Value.int .i64 (k : Int)] 26)) (.cells #[Value.bool false, Value.int .u64 0, Value.int .u64 0, Value.int .i64 0] 26)) (.cells #[Value.bool false, Value.int .u64 0, Value.int .u64 0, Value.int .i64 0] 26))
    generalize World.alloc (World.alloc (w.alloc _) _) _ = w1 at *
    obtain ⟨g3, hg3⟩ : ∃ g3, g3 = w.heap.size + 2 := ⟨_, rfl⟩
    rw [← hg3] at HA3 ⊢
    have HG3 : Hid (w.heap.size ≤ g3) := Lib.hid (by omega)
    obtain ⟨g2, hg2⟩ : ∃ g2, g2 = w.heap.size + 1 := ⟨_, rfl⟩
    rw [← hg2] at HA2 ⊢
    have HG2 : Hid (w.heap.size ≤ g2) := Lib.hid (by omega)
    obtain ⟨g1, hg1⟩ : ∃ g1, g1 = w.heap.size := ⟨_, rfl⟩
    rw [← hg1] at HA1 ⊢
    have HG1 : Hid (w.heap.size ≤ g1) := Lib.hid (by omega)
    have HN2_3 : Hid (g2 ≠ g3) := Lib.hid (by omega)
    have HN1_2 : Hid (g1 ≠ g2) := Lib.hid (by omega)
    have HN1_3 : Hid (g1 ≠ g3) := Lib.hid (by omega)
    clear hg1 hg2 hg3
    have HZ1 : Hid (∀ W, Fr N0 w1 W → Blk W g1 26 #[Value.bool s, Value.int .u64 (h : Int), Value.int .u64 (l : Int), Value.int .i64 (k : Int)]) := Lib.hid fun W hf => HA1.out.fr hf id
    have HZ2 : Hid (∀ W, Fr N0 w1 W → Blk W g2 26 #[Value.bool false, Value.int .u64 0, Value.int .u64 0, Value.int .i64 0]) := Lib.hid fun W hf => HA2.out.fr hf id
    have HZ3 : Hid (∀ W, Fr N0 w1 W → Blk W g3 26 #[Value.bool false, Value.int .u64 0, Value.int .u64 0, Value.int .i64 0]) := Lib.hid fun W hf => HA3.out.fr hf id
    have F := Lib.hid (Fr.refl N0 w1)
    obtain ⟨z1_0, z1_1, z1_2, z1_3⟩ := (HZ1.out _ F.out).c4
    obtain ⟨z2_0, z2_1, z2_2, z2_3⟩ := (HZ2.out _ F.out).c4
    obtain ⟨z3_0, z3_1, z3_2, z3_3⟩ := (HZ3.out _ F.out).c4
    go_wp2_with (go_at_call 15; refine (kv _).mono ?_; rintro e w2 ⟨rfl, hf⟩; have F := Lib.hid (F.out.trans hf); obtain ⟨z1_0, z1_1, z1_2, z1_3⟩ := (HZ1.out _ F.out).c4; obtain ⟨z2_0, z2_1, z2_2, z2_3⟩ := (HZ2.out _ F.out).c4; obtain ⟨z3_0, z3_1, z3_2, z3_3⟩ := (HZ3.out _ F.out).c4)
    have u0 := fun x : Fam w2 => (HZ1.out x.w (F.out.trans x.fr)).c4.1
    have u1 := fun x : Fam w2 => (HZ1.out x.w (F.out.trans x.fr)).c4.2.1
    have u2 := fun x : Fam w2 => (HZ1.out x.w (F.out.trans x.fr)).c4.2.2.1
    have u3 := fun x : Fam w2 => (HZ1.out x.w (F.out.trans x.fr)).c4.2.2.2
    clear z1_0 z1_1 z1_2 z1_3 z2_0 z2_1 z2_2 z2_3 z3_0 z3_1 z3_2 z3_3 hf kv
    have hd : decide (k = wi) = false := decide_eq_false (by omega)
    have hd2 : decide ((k : Int) = (wi : Int)) = false := decide_eq_false (by omega)
    have hd3 : ((k : Int) == (wi : Int)) = false := by simp; omega
    refine wp_region_fam (by kernel_rfl) (by kernel_rfl) ?_
    repeat (go_big_quiet_step ((go_at_call 33; exact fam_call (kw _))))
    first | refine wpQuiet_nil ?_ | (go_big_quiet_want; go_big_quiet_op; done)
    rintro _ ⟨xq, rfl⟩
    have F2 := Lib.hid (F.out.trans xq.fr)
    obtain ⟨w5, hw5⟩ : ∃ w5, w5 = xq.w := ⟨_, rfl⟩
    rw [← hw5] at F2 ⊢
    clear u0 u1 u2 u3 hd hd2 hd3 hw5
    obtain ⟨z0, z1, z2, z3⟩ := (HZ1.out _ F2.out).c4
    go_wp2_with (go_at_call 33; refine (kw _).mono ?_; rintro e w6 ⟨rfl, hf⟩; have F6 := Lib.hid (F2.out.trans hf))
    have HB := Lib.hid (Blk.new w6 3 (madeCells #[Value.int IntKind.i64 0] wi))
    have HF3 := Lib.hid (Fr.alloc F6.out (.cells (madeCells #[Value.int IntKind.i64 0] wi) 3))
    have hlt1 := (HZ1.out _ F6.out).lt
    have hlt2 := (HZ2.out _ F6.out).lt
    have hlt3 := (HZ3.out _ F6.out).lt
    have HG6 : w.heap.size ≤ w6.heap.size := (HF1.out.trans F6.out).size
    clear z0 z1 z2 z3
    generalize w6.alloc _ = w7 at *
    obtain ⟨g6, hg6⟩ : ∃ g, g = w6.heap.size := ⟨_, rfl⟩
    rw [← hg6] at HB HG6 ⊢
    have N16 := Lib.hid (show g1 ≠ g6 by omega)
    have N26 := Lib.hid (show g2 ≠ g6 by omega)
    have N36 := Lib.hid (show g3 ≠ g6 by omega)
    have HBB : Hid (Blk w7 g6 3 ((preB ⟨s, h, l⟩ 0).map i64v).toArray) := by
      rw [HP0.out, List.map_replicate]
      have := HB.out
      rw [made_eq] at this
      exact Lib.hid this
    clear HB hmk hlt1 hlt2 hlt3 hg6 hf kw HA1 HA2
    go_loopw [7] (fun i wr => ∃ j : Nat, j ≤ k ∧ i = .int .i64 (j : Int) ∧ Blk wr g6 3 ((preB ⟨s, h, l⟩ j).map i64v).toArray ∧ Fr (fun i => i = g6) w7 wr) (fun i _ => k + 1 - (RowKit.intOf i).toNat)
    case atStart => exact ⟨0, Nat.zero_le _, rfl, HBB.out, Fr.refl _ _⟩
    case round =>
      obtain ⟨j, hj, rfl, hb, hF⟩ := hrel
      have B := Lib.hid hb
      have G := Lib.hid hF
      have A1 := Lib.hid ((HZ1.out _ HF3.out).fr hF N16.out)
      have A2 := Lib.hid ((HZ2.out _ HF3.out).fr hF N26.out)
      have A3 := Lib.hid ((HZ3.out _ HF3.out).fr hF N36.out)
      obtain ⟨z0, z1, z2, z3⟩ := A1.out.c4
      clear hb hF
      by_cases hjm : j < k
      · have hjn : j < wi := by omega
        have k1 := fun w => kb w (j : Int) (by omega) (by omega)
        have HA := Lib.hid (HPA.out j j hjn)
        have HS := Lib.hid (HPS.out j hjn)
        generalize bitA ⟨s, h, l⟩ (j : Int) = x at *
        clear kb
        go_wp2_with (go_at_call 13; refine (k1 _).mono ?_; rintro e w8 ⟨rfl, hf5⟩; have B5 := Lib.hid (B.out.fr hf5 id); have y := B5.out.cell j; rw [List.getElem?_toArray, List.getElem?_map, HA.out, if_neg (Nat.lt_irrefl j)] at y; replace y : w8.cell? ⟨g6, j, none⟩ = some (.int .i64 0) := y; have fz := B5.out.frozen j)
        go_roundw
        case rel =>
          have HB : Blk (w8.setCell ⟨g6, j, none⟩ (.int .i64 (x : Int))) g6 3 ((preB ⟨s, h, l⟩ (j + 1)).map i64v).toArray := by
            have := B5.out.set_ j (i64v x)
            rw [List.setIfInBounds_toArray, ← List.map_set, HS.out] at this
            exact this
          exact ⟨j + 1, by omega, by go_num, HB, (G.out.trans (hf5.mono fun _ _ h => h.elim)).setCell (.inl rfl) _⟩
        case measure => simp [RowKit.intOf]; omega
      · obtain rfl : j = k := by omega
        have hx := HPA.out j j hkw
        rw [if_neg (Nat.lt_irrefl j)] at hx
        have y := B.out.cell j
        rw [List.getElem?_toArray, List.getElem?_map, hx] at y
        replace y : wr.cell? ⟨g6, j, none⟩ = some (.int .i64 0) := y
        have fz := B.out.frozen j
        clear hx kb
        go_wp2_with fail
        have BB : Hid (Blk (wr.setCell ⟨g6, j, none⟩ (.int .i64 1)) g6 3 ((bitsA ⟨s2, h2, l2⟩).map i64v).toArray) := by
          have := B.out.set_ j (i64v 1)
          rw [List.setIfInBounds_toArray, ← List.map_set, HBH.out] at this
          exact Lib.hid this
        have C1 := Lib.hid (A1.out.far (p := ⟨g6, j, none⟩) N16.out (.int .i64 1))
        have C2 := Lib.hid (A2.out.far (p := ⟨g6, j, none⟩) N26.out (.int .i64 1))
        have C3 := Lib.hid (A3.out.far (p := ⟨g6, j, none⟩) N36.out (.int .i64 1))
        have HFF := Lib.hid (((HF1.out.trans HF3.out).step G.out fun i hi => .inr (hi ▸ HG6)).setCell (p := ⟨g6, j, none⟩) (.inr HG6) (.int .i64 1))
        clear z0 z1 z2 z3 y fz A1 A2 A3 B G
        generalize wr.setCell _ _ = ws at *
        have HD1 := Lib.hid fun (W : World) (hf : Fr N0 ws W) => (C1.out.fr hf id).c4
        obtain ⟨u0, u1, u2, u3⟩ := HD1.out _ (Fr.refl _ _)
        have kc := fun W (hf : Fr N0 ws W) => kof W g6 (BB.out.fr hf id)
        have n12 := HN1_2.out
        have n13 := HN1_3.out
        have n23 := HN2_3.out
        have hwr : IntKind.i64.wrap ((j : Int) + 1) = (j : Int) + 1 := IntWalk.i64_in _ (by omega)
        go_region_held3 (fun w' => w'.cell? ⟨g1, 0, none⟩ = some (.bool s) ∧ w'.cell? ⟨g1, 1, none⟩ = some (.int .u64 (h : Int)) ∧ w'.cell? ⟨g1, 2, none⟩ = some (.int .u64 (l : Int)) ∧ w'.cell? ⟨g1, 3, none⟩ = some (.int .i64 (j : Int))) (first | go_keep | with_reducible exact HD1.out _ F9.out | with_reducible exact (((C1.out.fr F9.out id).far4 n12 _ _ _ _).far4 n13 _ _ _ _).c4 | with_reducible exact ((C1.out.fr F9.out id).far4 n12 _ _ _ _).c4) ((go_at_call 43; refine (kc _ (by repeat first | exact Fr.refl _ _ | refine Fr.drew ?_ | refine Fr.drewN ?_ _)).mono ?_; rintro e w9 ⟨rfl, hf9⟩; have F9 := Lib.hid (Fr.trans (by repeat first | exact Fr.refl _ _ | refine Fr.drew ?_ | refine Fr.drewN ?_ _) hf9 : Fr N0 ws w9); have B2 := Lib.hid (C2.out.fr F9.out id); have B3 := Lib.hid (C3.out.fr F9.out id); obtain ⟨x0, x1, x2, x3⟩ := B2.out.c4; obtain ⟨y0, y1, y2, y3⟩ := B3.out.c4; have fu0 := B2.out.frozen 0; have fu1 := B2.out.frozen 1; have fu2 := B2.out.frozen 2; have fu3 := B2.out.frozen 3; have fv0 := B3.out.frozen 0; have fv1 := B3.out.frozen 1; have fv2 := B3.out.frozen 2; have fv3 := B3.out.frozen 3))
        all_goals go_wp2_with fail
        all_goals refine ret_cell3 rfl rfl rfl ((B2.out.set4 _ _ _ _).far4 n23 _ _ _ _) ((B3.out.far4 n23.symm _ _ _ _).set4 _ _ _ _) Tryd.underlying26 rfl rfl ⟨?_, by
          iterate 4 refine Fr.setCell ?_ (.inr HG3.out) _
          iterate 4 refine Fr.setCell ?_ (.inr HG2.out) _
          exact HFF.out.trans F9.out⟩
        all_goals rfl
end
end Go.Proofs.YtndjijadalkidaaDoor
