/- The document's Valid of prefixes, Of. -/
import Derived.Test.YtndjijadalkidaaDoorRc
namespace Go.Proofs.YtndjijadalkidaaDoor
open Go.RowKit
section
variable {w : World}
set_option maxHeartbeats 1600000 in
set_option maxRecDepth 100000 in
theorem rvalP (p : Px) (ho : p.ok) : Calls Tryd.prog 15 #[pxV p] w fun e w' => e = .returned (.bool (validP p)) ∧ Fr N0 w w' := by
  obtain ⟨⟨s, h, l⟩, m⟩ := p
  have hoa := ho.ad
  have c29 : ∀ (w : World) {b : Bool}, validA ⟨s, h, l⟩ = b → Calls Tryd.prog 32 #[.agg #[.bool s, .int .u64 (h : Int), .int .u64 (l : Int)]] w fun e w' => e = .returned (.bool b) ∧ Fr N0 w w' := fun w b hb => hb ▸ rval (w := w) ⟨s, h, l⟩
  have c30 : ∀ w : World, Calls Tryd.prog 33 #[.agg #[.bool s, .int .u64 (h : Int), .int .u64 (l : Int)]] w fun e w' => e = .returned (.int .i64 (widthA ⟨s, h, l⟩)) ∧ Fr N0 w w' := fun w => rwid (w := w) ⟨s, h, l⟩
  have E : ∀ W, Sem.run Tryd.prog (binOp .eql 24 (adV (cutA ⟨s, h, l⟩ m)) (.agg #[.bool s, .int .u64 (h : Int), .int .u64 (l : Int)])) W = .ok (.bool (decide (cutA ⟨s, h, l⟩ m = ⟨s, h, l⟩))) W := fun W => eql_ad (cutA ⟨s, h, l⟩ m) ⟨s, h, l⟩ W
  have EG : ∀ X Y W, Sem.run Tryd.prog (eqGuard .eql 24 X Y (adV (cutA ⟨s, h, l⟩ m)) (.agg #[.bool s, .int .u64 (h : Int), .int .u64 (l : Int)])) W = .ok () W := fun X Y W => guard_ad .eql X Y (cutA ⟨s, h, l⟩ m) ⟨s, h, l⟩ W
  have c31 : ∀ w : World, validA ⟨s, h, l⟩ = true → 0 ≤ m → m ≤ (widthA ⟨s, h, l⟩ : Int) → Calls Tryd.prog 34 #[.agg #[.bool s, .int .u64 (h : Int), .int .u64 (l : Int)], .int .i64 m] w fun e w' => e = .returned (adV (cutA ⟨s, h, l⟩ m)) ∧ Fr N0 w w' := fun w hv h1 h2 => by
    obtain ⟨u, rfl⟩ : ∃ u : Nat, m = u := ⟨m.toNat, by omega⟩
    exact rcut ⟨s, h, l⟩ hoa hv u (by omega)
  have hw := Lib.hid (show widthA ⟨s, h, l⟩ ≤ 128 by unfold widthA; split <;> omega)
  have key : ∀ b, (validA ⟨s, h, l⟩ = b ∧ (b = false ∨ (b = true ∧ m < 0 ∧ decide (0 ≤ m) = false) ∨ (b = true ∧ 0 ≤ m ∧ decide (m ≤ (widthA ⟨s, h, l⟩ : Int)) = false) ∨ (b = true ∧ 0 ≤ m ∧ m ≤ (widthA ⟨s, h, l⟩ : Int) ∧ decide (m ≤ (widthA ⟨s, h, l⟩ : Int)) = true))) →
      Calls Tryd.prog 15 #[pxV ⟨⟨s, h, l⟩, m⟩] w fun e w' => e = .returned (.bool (validP ⟨⟨s, h, l⟩, m⟩)) ∧ Fr N0 w w' := by
    rintro b ⟨e1, hc⟩
    have k29 := fun w => c29 w e1
    have e1' := Lib.hid e1
    clear c29 e1 ho hoa
    go_enter Tryd.func15, Tryd.ntmps15
    unfold pxV
    go_wp2_with fail
    have HA1 := Lib.hid (Blk.new w 26 #[Value.bool s, Value.int .u64 (h : Int), Value.int .u64 (l : Int), Value.int .i64 m])
    have HF1 := Lib.hid (Fr.alloc (Fr.refl N0 w) (.cells #[Value.bool s, Value.int .u64 (h : Int), Value.int .u64 (l : Int), Value.int .i64 m] 26))
    generalize w.alloc _ = w1 at *
    obtain ⟨g1, hg1⟩ : ∃ g1, g1 = w.heap.size := ⟨_, rfl⟩
    rw [← hg1] at HA1 ⊢
    have HG1 : Hid (w.heap.size ≤ g1) := Lib.hid (by omega)
    clear hg1
    have HZ1 : Hid (∀ W, Fr N0 w1 W → Blk W g1 26 #[Value.bool s, Value.int .u64 (h : Int), Value.int .u64 (l : Int), Value.int .i64 m]) := Lib.hid fun W hf => HA1.out.fr hf id
    have F := Lib.hid (Fr.refl N0 w1)
    obtain ⟨z1_0, z1_1, z1_2, z1_3⟩ := (HZ1.out _ F.out).c4
    go_wp2_with (go_at_call 32; refine (k29 _).mono ?_; rintro e w2 ⟨rfl, hf⟩; have F := Lib.hid (F.out.trans hf); obtain ⟨z1_0, z1_1, z1_2, z1_3⟩ := (HZ1.out _ F.out).c4)
    clear z1_0 z1_1 z1_2 z1_3
    have HF2 := Lib.hid (HF1.out.trans F.out)
    have z0 := fun x : Fam w2 => (HZ1.out x.w (F.out.trans x.fr)).c4.1
    have z1 := fun x : Fam w2 => (HZ1.out x.w (F.out.trans x.fr)).c4.2.1
    have z2 := fun x : Fam w2 => (HZ1.out x.w (F.out.trans x.fr)).c4.2.2.1
    have z3 := fun x : Fam w2 => (HZ1.out x.w (F.out.trans x.fr)).c4.2.2.2
    rcases hc with rfl | ⟨rfl, hm, hd⟩ | ⟨rfl, hm, hd⟩ | ⟨rfl, hm, hm2, hd⟩
    all_goals
      refine wp_region_fam (by kernel_rfl) (by kernel_rfl) ?_
      repeat (go_big_quiet_step ((first
        | (go_at_call 33; exact fam_call (c30 _))
        | (go_at_call 34; exact fam_call (c31 _ e1'.out hm hm2)))))
      first | refine wpQuiet_nil ?_ | (go_big_quiet_want; go_big_quiet_op; done)
      rintro _ ⟨xq, rfl⟩
      go_wp2_with fail
      go_ret
      refine ⟨retb ?_, HF2.out.trans xq.fr⟩
      have e1 := e1'.out
      unfold validP
      simp [e1]
      try first | omega | (intro h1 h2; exact absurd h2 (of_decide_eq_false hd))
  exact key _ ⟨rfl, by
    by_cases h0 : validA ⟨s, h, l⟩ = true
    · by_cases h1 : m < 0
      · exact .inr (.inl ⟨h0, h1, by simpa using h1⟩)
      · by_cases h2 : m ≤ (widthA ⟨s, h, l⟩ : Int)
        · exact .inr (.inr (.inr ⟨h0, by omega, h2, by simpa using h2⟩))
        · exact .inr (.inr (.inl ⟨h0, by omega, by simpa using h2⟩))
    · exact .inl (by simpa using h0)⟩
set_option maxHeartbeats 1600000 in
set_option maxRecDepth 100000 in
theorem rof_ (a : Ad) (ho : a.ok) (m : Int) (h1 : -9223372036854775808 ≤ m) (h2 : m ≤ 9223372036854775807) : Calls Tryd.prog 11 #[adV a, .int .i64 m] w fun e w' => e = .returned (.tuple #[pxV (ofP a m).1, .int .i64 (ofP a m).2]) ∧ Fr N0 w w' := by
  obtain ⟨s, h, l⟩ := a
  have c29 : ∀ (w : World) {b : Bool}, validA ⟨s, h, l⟩ = b → Calls Tryd.prog 32 #[.agg #[.bool s, .int .u64 (h : Int), .int .u64 (l : Int)]] w fun e w' => e = .returned (.bool b) ∧ Fr N0 w w' := fun w b hb => hb ▸ rval (w := w) ⟨s, h, l⟩
  have c30 : ∀ w : World, Calls Tryd.prog 33 #[.agg #[.bool s, .int .u64 (h : Int), .int .u64 (l : Int)]] w fun e w' => e = .returned (.int .i64 (widthA ⟨s, h, l⟩)) ∧ Fr N0 w w' := fun w => rwid (w := w) ⟨s, h, l⟩
  obtain ⟨s2, h3, l2, hcut⟩ : ∃ s2 h2 l2, cutA ⟨s, h, l⟩ m = ⟨s2, h2, l2⟩ := ⟨_, _, _, rfl⟩
  have c31 : ∀ w : World, validA ⟨s, h, l⟩ = true → 0 ≤ m → m ≤ (widthA ⟨s, h, l⟩ : Int) → Calls Tryd.prog 34 #[.agg #[.bool s, .int .u64 (h : Int), .int .u64 (l : Int)], .int .i64 m] w fun e w' => e = .returned (.agg #[.bool s2, .int .u64 (h3 : Int), .int .u64 (l2 : Int)]) ∧ Fr N0 w w' := fun w hv h1 h2 => by
    obtain ⟨u, rfl⟩ : ∃ u : Nat, m = u := ⟨m.toNat, by omega⟩
    have := rcut (w := w) ⟨s, h, l⟩ ho hv u (by omega)
    rw [hcut] at this
    exact this
  have HC := Lib.hid hcut
  clear hcut
  have hw := Lib.hid (show widthA ⟨s, h, l⟩ ≤ 128 by unfold widthA; split <;> omega)
  have key : ∀ b, (validA ⟨s, h, l⟩ = b ∧ ((b = false ∧ ofP ⟨s, h, l⟩ m = (⟨⟨false, 0, 0⟩, 0⟩, 1)) ∨ (b = true ∧ m < 0 ∧ ofP ⟨s, h, l⟩ m = (⟨⟨false, 0, 0⟩, 0⟩, 1)) ∨ (b = true ∧ 0 ≤ m ∧ (widthA ⟨s, h, l⟩ : Int) < m ∧ decide (m < 0) = false ∧ ofP ⟨s, h, l⟩ m = (⟨⟨false, 0, 0⟩, 0⟩, 1)) ∨ (b = true ∧ 0 ≤ m ∧ m ≤ (widthA ⟨s, h, l⟩ : Int) ∧ decide ((widthA ⟨s, h, l⟩ : Int) < m) = false ∧ decide (m < 0) = false ∧ ofP ⟨s, h, l⟩ m = (⟨⟨s2, h3, l2⟩, m⟩, 0)))) →
      Calls Tryd.prog 11 #[adV ⟨s, h, l⟩, .int .i64 m] w fun e w' => e = .returned (.tuple #[pxV (ofP ⟨s, h, l⟩ m).1, .int .i64 (ofP ⟨s, h, l⟩ m).2]) ∧ Fr N0 w w' := by
    rintro b ⟨e1, hc⟩
    have k29 := fun w => c29 w e1
    have e1' := Lib.hid e1
    clear c29 e1 ho
    go_enter Tryd.func11, Tryd.ntmps11
    unfold adV
    go_wp2_with fail
    have HA1 := Lib.hid ((Blk.new w 24 #[Value.bool s, Value.int .u64 (h : Int), Value.int .u64 (l : Int)]).alloc (.cells #[Value.bool false, Value.int .u64 0, Value.int .u64 0, Value.int .i64 0] 26))
    have HA2 := Lib.hid (Blk.alloc2 w (.cells #[Value.bool s, Value.int .u64 (h : Int), Value.int .u64 (l : Int)] 24) 26 #[Value.bool false, Value.int .u64 0, Value.int .u64 0, Value.int .i64 0])
    have HF1 := Lib.hid (Fr.alloc (Fr.alloc (Fr.refl N0 w) (.cells #[Value.bool s, Value.int .u64 (h : Int), Value.int .u64 (l : Int)] 24)) (.cells #[Value.bool false, Value.int .u64 0, Value.int .u64 0, Value.int .i64 0] 26))
    generalize World.alloc (w.alloc _) _ = w1 at *
    obtain ⟨g2, hg2⟩ : ∃ g2, g2 = w.heap.size + 1 := ⟨_, rfl⟩
    rw [← hg2] at HA2 ⊢
    have HG2 : Hid (w.heap.size ≤ g2) := Lib.hid (by omega)
    obtain ⟨g1, hg1⟩ : ∃ g1, g1 = w.heap.size := ⟨_, rfl⟩
    rw [← hg1] at HA1 ⊢
    have HG1 : Hid (w.heap.size ≤ g1) := Lib.hid (by omega)
    have HN1_2 : Hid (g1 ≠ g2) := Lib.hid (by omega)
    clear hg1 hg2
    have HZ1 : Hid (∀ W, Fr N0 w1 W → Blk W g1 24 #[Value.bool s, Value.int .u64 (h : Int), Value.int .u64 (l : Int)]) := Lib.hid fun W hf => HA1.out.fr hf id
    have HZ2 : Hid (∀ W, Fr N0 w1 W → Blk W g2 26 #[Value.bool false, Value.int .u64 0, Value.int .u64 0, Value.int .i64 0]) := Lib.hid fun W hf => HA2.out.fr hf id
    have F := Lib.hid (Fr.refl N0 w1)
    obtain ⟨z1_0, z1_1, z1_2⟩ := (HZ1.out _ F.out).c3
    obtain ⟨z2_0, z2_1, z2_2, z2_3⟩ := (HZ2.out _ F.out).c4
    rcases hc with ⟨rfl, he⟩ | ⟨rfl, hm, he⟩ | ⟨rfl, hm, hd, hd0, he⟩ | ⟨rfl, hm, hm2, hd, hd0, he⟩
    all_goals
      have HE := Lib.hid he
      clear he
      (go_wp2_with (first
        | (refine wpList_store_row rfl 26 _ _ rfl g2 _ rfl rfl _ _ (HZ2.out _ F.out) rfl rfl (by simp [Value.oneCell']) ?_)
        | (go_at_call 32; refine (k29 _).mono ?_; rintro e w2 ⟨rfl, hf⟩; have F := Lib.hid (F.out.trans hf); obtain ⟨z1_0, z1_1, z1_2⟩ := (HZ1.out _ F.out).c3; obtain ⟨z2_0, z2_1, z2_2, z2_3⟩ := (HZ2.out _ F.out).c4)
        | (go_at_call 33; refine (c30 _).mono ?_; rintro e w2 ⟨rfl, hf⟩; have F := Lib.hid (F.out.trans hf); obtain ⟨z1_0, z1_1, z1_2⟩ := (HZ1.out _ F.out).c3; obtain ⟨z2_0, z2_1, z2_2, z2_3⟩ := (HZ2.out _ F.out).c4)
        | (go_at_call 34; refine (c31 _ e1'.out hm hm2).mono ?_; rintro e w2 ⟨rfl, hf⟩; have F := Lib.hid (F.out.trans hf); obtain ⟨z1_0, z1_1, z1_2⟩ := (HZ1.out _ F.out).c3; obtain ⟨z2_0, z2_1, z2_2, z2_3⟩ := (HZ2.out _ F.out).c4)))
      refine ret_cell2 rfl rfl ((HZ2.out _ F.out).row _) Tryd.underlying26 rfl ⟨?_, Fr.setRow (HF1.out.trans F.out) (.inr HG2.out) _⟩
      rw [HE.out]; rfl
  exact key _ ⟨rfl, by
    unfold ofP
    by_cases h0 : validA ⟨s, h, l⟩ = true
    · by_cases h1 : m < 0
      · exact .inr (.inl ⟨h0, h1, if_neg fun k => by omega⟩)
      · by_cases h2 : m ≤ (widthA ⟨s, h, l⟩ : Int)
        · exact .inr (.inr (.inr ⟨h0, by omega, h2, by simpa using h2, by simpa using h1, by rw [if_pos ⟨h0, by omega, h2⟩, HC.out]⟩))
        · exact .inr (.inr (.inl ⟨h0, by omega, by omega, by simpa using h1, if_neg fun k => by omega⟩))
    · exact .inl ⟨by simpa using h0, if_neg fun k => h0 k.1⟩⟩
end
end Go.Proofs.YtndjijadalkidaaDoor
