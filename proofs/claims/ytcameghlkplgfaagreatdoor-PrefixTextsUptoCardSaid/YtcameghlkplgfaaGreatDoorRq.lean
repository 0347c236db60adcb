/- The document's Valid of prefixes, Of. -/
import Derived.Test.YtcameghlkplgfaaGreatDoorRc
namespace Go.Proofs.YtcameghlkplgfaaGreatDoor
open Go.RowKit
section
variable {w : World}
set_option maxHeartbeats 1600000 in
set_option maxRecDepth 100000 in
theorem rvalP (p : Px) (ho : p.ok) : Calls Tryz.prog 22 #[pxV p] w fun e w' => e = .returned (.bool (validP p)) ∧ Fr N0 w w' := by
  obtain ⟨⟨s, h, l⟩, m⟩ := p
  have hoa := ho.ad
  have c29 : ∀ (w : World) {b : Bool}, validA ⟨s, h, l⟩ = b → Calls Tryz.prog 40 #[.agg #[.bool s, .int .u64 (h : Int), .int .u64 (l : Int)]] w fun e w' => e = .returned (.bool b) ∧ Fr N0 w w' := fun w b hb => hb ▸ rval (w := w) ⟨s, h, l⟩
  have c30 : ∀ w : World, Calls Tryz.prog 41 #[.agg #[.bool s, .int .u64 (h : Int), .int .u64 (l : Int)]] w fun e w' => e = .returned (.int .i64 (widthA ⟨s, h, l⟩)) ∧ Fr N0 w w' := fun w => rwid (w := w) ⟨s, h, l⟩
  have E : ∀ W, Sem.run Tryz.prog (binOp .eql 24 (adV (cutA ⟨s, h, l⟩ m)) (.agg #[.bool s, .int .u64 (h : Int), .int .u64 (l : Int)])) W = .ok (.bool (decide (cutA ⟨s, h, l⟩ m = ⟨s, h, l⟩))) W := fun W => eql_ad (cutA ⟨s, h, l⟩ m) ⟨s, h, l⟩ W
  have EG : ∀ X Y W, Sem.run Tryz.prog (eqGuard .eql 24 X Y (adV (cutA ⟨s, h, l⟩ m)) (.agg #[.bool s, .int .u64 (h : Int), .int .u64 (l : Int)])) W = .ok () W := fun X Y W => guard_ad .eql X Y (cutA ⟨s, h, l⟩ m) ⟨s, h, l⟩ W
  have c31 : ∀ w : World, validA ⟨s, h, l⟩ = true → 0 ≤ m → m ≤ (widthA ⟨s, h, l⟩ : Int) → Calls Tryz.prog 42 #[.agg #[.bool s, .int .u64 (h : Int), .int .u64 (l : Int)], .int .i64 m] w fun e w' => e = .returned (adV (cutA ⟨s, h, l⟩ m)) ∧ Fr N0 w w' := fun w hv h1 h2 => by
    obtain ⟨u, rfl⟩ : ∃ u : Nat, m = u := ⟨m.toNat, by omega⟩
    exact rcut ⟨s, h, l⟩ hoa hv u (by omega)
  have hw := Lib.hid (show widthA ⟨s, h, l⟩ ≤ 128 by unfold widthA; split <;> omega)
  have key : ∀ b, (validA ⟨s, h, l⟩ = b ∧ (b = false ∨ (b = true ∧ m < 0 ∧ decide (0 ≤ m) = false) ∨ (b = true ∧ 0 ≤ m ∧ decide (m ≤ (widthA ⟨s, h, l⟩ : Int)) = false) ∨ (b = true ∧ 0 ≤ m ∧ m ≤ (widthA ⟨s, h, l⟩ : Int) ∧ decide (m ≤ (widthA ⟨s, h, l⟩ : Int)) = true))) →
      Calls Tryz.prog 22 #[pxV ⟨⟨s, h, l⟩, m⟩] w fun e w' => e = .returned (.bool (validP ⟨⟨s, h, l⟩, m⟩)) ∧ Fr N0 w w' := by
    rintro b ⟨e1, hc⟩
    have k29 := fun w => c29 w e1
    have e1' := Lib.hid e1
    clear c29 e1 ho hoa
    go_enter Tryz.func22, Tryz.ntmps22
    unfold pxV
    go_wp2_with fail
    have HA1 := Lib.hid (Blk.new w 26 #[Value.bool s, Value.int .u64 (h : Int), Value.int .u64 (l : Int), Value.int .i64 m])
    have HF1 := Lib.hid (Fr.alloc (Fr.refl N0 w) (.cells #[Value.bool s, Value.int .u64 (h : Int), Value.int .u64 (l : Int), Value.int .i64 m] 26))
    generalize w.alloc _ = w1 at *
    obtain ⟨g1, hg1⟩ : ∃ g1, g1 = w.heap.size := ⟨_, rfl⟩
    rw [← hg1] at HA1 ⊢
    have HG1 : Hid (w.heap.size ≤ g1) := Lib.hid (by omega)
    clear hg1
    have HZ1 : Hid (∀ W, Fr N0 w1 W → Blk W g1 26 #[Value.bool s, Value.int .u64 (h : Int), Value.int .u64 (l : Int), Value.int .i64 m]) := Lib.hid fun W hf => HA1.out.fr hf id
    have F := Lib.hid (Fr.refl N0 w1)
    obtain ⟨z1_0, z1_1, z1_2, z1_3⟩ := (HZ1.out _ F.out).c4
    go_wp2_with (go_at_call 40; refine (k29 _).mono ?_; rintro e w2 ⟨rfl, hf⟩; have F := Lib.hid (F.out.trans hf); obtain ⟨z1_0, z1_1, z1_2, z1_3⟩ := (HZ1.out _ F.out).c4)
    clear z1_0 z1_1 z1_2 z1_3
    have HF2 := Lib.hid (HF1.out.trans F.out)
    have z0 := fun x : Fam w2 => (HZ1.out x.w (F.out.trans x.fr)).c4.1
    have z1 := fun x : Fam w2 => (HZ1.out x.w (F.out.trans x.fr)).c4.2.1
    have z2 := fun x : Fam w2 => (HZ1.out x.w (F.out.trans x.fr)).c4.2.2.1
    have z3 := fun x : Fam w2 => (HZ1.out x.w (F.out.trans x.fr)).c4.2.2.2
    rcases hc with rfl | ⟨rfl, hm, hd⟩ | ⟨rfl, hm, hd⟩ | ⟨rfl, hm, hm2, hd⟩
    all_goals
      refine wp_region_fam (by kernel_rfl) (by kernel_rfl) ?_
      repeat (go_big_quiet_step ((first
        | (go_at_call 41; exact fam_call (c30 _))
        | (go_at_call 42; exact fam_call (c31 _ e1'.out hm hm2)))))
      first | refine wpQuiet_nil ?_ | (go_big_quiet_want; go_big_quiet_op; done)
      rintro _ ⟨xq, rfl⟩
      go_wp2_with fail
      go_ret
      refine ⟨retb ?_, HF2.out.trans xq.fr⟩
      have e1 := e1'.out
      unfold validP
      simp [e1]
      try first | omega | (intro h1 h2; exact absurd h2 (of_decide_eq_false hd))
  exact key _ ⟨rfl, by
    by_cases h0 : validA ⟨s, h, l⟩ = true
    · by_cases h1 : m < 0
      · exact .inr (.inl ⟨h0, h1, by simpa using h1⟩)
      · by_cases h2 : m ≤ (widthA ⟨s, h, l⟩ : Int)
        · exact .inr (.inr (.inr ⟨h0, by omega, h2, by simpa using h2⟩))
        · exact .inr (.inr (.inl ⟨h0, by omega, by simpa using h2⟩))
    · exact .inl (by simpa using h0)⟩
end
end Go.Proofs.YtcameghlkplgfaaGreatDoor
