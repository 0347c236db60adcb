/- The document's Valid of prefixes, Of. The document's Less of addresses, of prefixes. prefix.Common. The document's Common, Holds, Covers. The document's Holds, Covers. -/
import Derived.Test.YtnklbeigikcfkaaGreatDoorGh
import Derived.Test.YtnklbeigikcfkaaGreatDoorLe
import Derived.Test.YtnklbeigikcfkaaGreatDoorPc
import Derived.Deep.RegionHeld3
import Derived.Laws.Bits64
import Derived.WalkMore
import Derived.Test.YtnklbeigikcfkaaGreatDoorCo
namespace Go.Proofs.YtnklbeigikcfkaaGreatDoor
open Go.RowKit
section
variable {w : World}
set_option maxHeartbeats 1600000 in
set_option maxRecDepth 100000 in
theorem rvalP (p : Px) (ho : p.ok) : Calls Tryz.prog 68 #[pxV p] w fun e w' => e = .returned (.bool (validP p)) ∧ Fr N0 w w' := by
  obtain ⟨⟨s, h, l⟩, m⟩ := p
  have hoa := ho.ad
  have c29 : ∀ (w : World) {b : Bool}, validA ⟨s, h, l⟩ = b → Calls Tryz.prog 88 #[.agg #[.bool s, .int .u64 (h : Int), .int .u64 (l : Int)]] w fun e w' => e = .returned (.bool b) ∧ Fr N0 w w' := fun w b hb => hb ▸ rval (w := w) ⟨s, h, l⟩
  have c30 : ∀ w : World, Calls Tryz.prog 89 #[.agg #[.bool s, .int .u64 (h : Int), .int .u64 (l : Int)]] w fun e w' => e = .returned (.int .i64 (widthA ⟨s, h, l⟩)) ∧ Fr N0 w w' := fun w => rwid (w := w) ⟨s, h, l⟩
  have E : ∀ W, Sem.run Tryz.prog (binOp .eql 30 (adV (cutA ⟨s, h, l⟩ m)) (.agg #[.bool s, .int .u64 (h : Int), .int .u64 (l : Int)])) W = .ok (.bool (decide (cutA ⟨s, h, l⟩ m = ⟨s, h, l⟩))) W := fun W => eql_ad (cutA ⟨s, h, l⟩ m) ⟨s, h, l⟩ W
  have EG : ∀ X Y W, Sem.run Tryz.prog (eqGuard .eql 30 X Y (adV (cutA ⟨s, h, l⟩ m)) (.agg #[.bool s, .int .u64 (h : Int), .int .u64 (l : Int)])) W = .ok () W := fun X Y W => guard_ad .eql X Y (cutA ⟨s, h, l⟩ m) ⟨s, h, l⟩ W
  have c31 : ∀ w : World, validA ⟨s, h, l⟩ = true → 0 ≤ m → m ≤ (widthA ⟨s, h, l⟩ : Int) → Calls Tryz.prog 90 #[.agg #[.bool s, .int .u64 (h : Int), .int .u64 (l : Int)], .int .i64 m] w fun e w' => e = .returned (adV (cutA ⟨s, h, l⟩ m)) ∧ Fr N0 w w' := fun w hv h1 h2 => by
    obtain ⟨u, rfl⟩ : ∃ u : Nat, m = u := ⟨m.toNat, by omega⟩
    exact rcut ⟨s, h, l⟩ hoa hv u (by omega)
  have hw := Lib.hid (show widthA ⟨s, h, l⟩ ≤ 128 by unfold widthA; split <;> omega)
  have key : ∀ b, (validA ⟨s, h, l⟩ = b ∧ (b = false ∨ (b = true ∧ m < 0 ∧ decide (0 ≤ m) = false) ∨ (b = true ∧ 0 ≤ m ∧ decide (m ≤ (widthA ⟨s, h, l⟩ : Int)) = false) ∨ (b = true ∧ 0 ≤ m ∧ m ≤ (widthA ⟨s, h, l⟩ : Int) ∧ decide (m ≤ (widthA ⟨s, h, l⟩ : Int)) = true))) →
      Calls Tryz.prog 68 #[pxV ⟨⟨s, h, l⟩, m⟩] w fun e w' => e = .returned (.bool (validP ⟨⟨s, h, l⟩, m⟩)) ∧ Fr N0 w w' := by
    rintro b ⟨e1, hc⟩
    have k29 := fun w => c29 w e1
    have e1' := Lib.hid e1
    clear c29 e1 ho hoa
    go_enter Tryz.func68, Tryz.ntmps68
    unfold pxV
    go_wp2_with fail
    have HA1 := Lib.hid (Blk.new w 32 #[Value.bool s, Value.int .u64 (h : Int), Value.int .u64 (l : Int), Value.int .i64 m])
    have HF1 := Lib.hid (Fr.alloc (Fr.refl N0 w) (.cells #[Value.bool s, Value.int .u64 (h : Int), Value.int .u64 (l : Int), Value.int .i64 m] 32))
    generalize w.alloc _ = w1 at *
    obtain ⟨g1, hg1⟩ : ∃ g1, g1 = w.heap.size := ⟨_, rfl⟩
    rw [← hg1] at HA1 ⊢
    have HG1 : Hid (w.heap.size ≤ g1) := Lib.hid (by omega)
    clear hg1
    have HZ1 : Hid (∀ W, Fr N0 w1 W → Blk W g1 32 #[Value.bool s, Value.int .u64 (h : Int), Value.int .u64 (l : Int), Value.int .i64 m]) := Lib.hid fun W hf => HA1.out.fr hf id
    have F := Lib.hid (Fr.refl N0 w1)
    obtain ⟨z1_0, z1_1, z1_2, z1_3⟩ := (HZ1.out _ F.out).c4
    go_wp2_with (go_at_call 88; refine (k29 _).mono ?_; rintro e w2 ⟨rfl, hf⟩; have F := Lib.hid (F.out.trans hf); obtain ⟨z1_0, z1_1, z1_2, z1_3⟩ := (HZ1.out _ F.out).c4)
    clear z1_0 z1_1 z1_2 z1_3
    have HF2 := Lib.hid (HF1.out.trans F.out)
    have z0 := fun x : Fam w2 => (HZ1.out x.w (F.out.trans x.fr)).c4.1
    have z1 := fun x : Fam w2 => (HZ1.out x.w (F.out.trans x.fr)).c4.2.1
    have z2 := fun x : Fam w2 => (HZ1.out x.w (F.out.trans x.fr)).c4.2.2.1
    have z3 := fun x : Fam w2 => (HZ1.out x.w (F.out.trans x.fr)).c4.2.2.2
    rcases hc with rfl | ⟨rfl, hm, hd⟩ | ⟨rfl, hm, hd⟩ | ⟨rfl, hm, hm2, hd⟩
    all_goals
      refine wp_region_fam (by kernel_rfl) (by kernel_rfl) ?_
      repeat (go_big_quiet_step ((first
        | (go_at_call 89; exact fam_call (c30 _))
        | (go_at_call 90; exact fam_call (c31 _ e1'.out hm hm2)))))
      first | refine wpQuiet_nil ?_ | (go_big_quiet_want; go_big_quiet_op; done)
      rintro _ ⟨xq, rfl⟩
      go_wp2_with fail
      go_ret
      refine ⟨retb ?_, HF2.out.trans xq.fr⟩
      have e1 := e1'.out
      unfold validP
      simp [e1]
      try first | omega | (intro h1 h2; exact absurd h2 (of_decide_eq_false hd))
  exact key _ ⟨rfl, by
    by_cases h0 : validA ⟨s, h, l⟩ = true
    · by_cases h1 : m < 0
      · exact .inr (.inl ⟨h0, h1, by simpa using h1⟩)
      · by_cases h2 : m ≤ (widthA ⟨s, h, l⟩ : Int)
        · exact .inr (.inr (.inr ⟨h0, by omega, h2, by simpa using h2⟩))
        · exact .inr (.inr (.inl ⟨h0, by omega, by simpa using h2⟩))
    · exact .inl (by simpa using h0)⟩
end
end Go.Proofs.YtnklbeigikcfkaaGreatDoor
namespace Go.Proofs.YtnklbeigikcfkaaGreatDoor
open Go.RowKit
section
variable {w : World}
set_option maxHeartbeats 1600000 in
set_option maxRecDepth 100000 in
theorem rales (a b : Ad) (ha : a.ok) (hb : b.ok) : Calls Tryz.prog 70 #[adV a, adV b] w fun e w' => e = .returned (.bool (ltA a b)) ∧ Fr N0 w w' := by
  obtain ⟨s, h, l⟩ := a
  obtain ⟨s', h', l'⟩ := b
  obtain ⟨ha1, ha2⟩ := ha
  obtain ⟨hb1, hb2⟩ := hb
  simp only at ha1 ha2 hb1 hb2
  have c29 : ∀ (w : World) {b : Bool}, validA ⟨s, h, l⟩ = b → Calls Tryz.prog 88 #[.agg #[.bool s, .int .u64 (h : Int), .int .u64 (l : Int)]] w fun e w' => e = .returned (.bool b) ∧ Fr N0 w w' := fun w b hb => hb ▸ rval (w := w) ⟨s, h, l⟩
  have d29 : ∀ (w : World) {b : Bool}, validA ⟨s', h', l'⟩ = b → Calls Tryz.prog 88 #[.agg #[.bool s', .int .u64 (h' : Int), .int .u64 (l' : Int)]] w fun e w' => e = .returned (.bool b) ∧ Fr N0 w w' := fun w b hb => hb ▸ rval (w := w) ⟨s', h', l'⟩
  have key : ∀ b b' r, validA ⟨s, h, l⟩ = b → validA ⟨s', h', l'⟩ = b' → ltA ⟨s, h, l⟩ ⟨s', h', l'⟩ = r → ((b = false ∧ r = false) ∨ (b = true ∧ b' = false ∧ r = false)
      ∨ (b = true ∧ b' = true ∧ s = true ∧ s' = false ∧ r = false) ∨ (b = true ∧ b' = true ∧ s = false ∧ s' = true ∧ r = true)
      ∨ (b = true ∧ b' = true ∧ s = s' ∧ h < h' ∧ r = true) ∨ (b = true ∧ b' = true ∧ s = s' ∧ h = h' ∧ r = decide (l < l')) ∨ (b = true ∧ b' = true ∧ s = s' ∧ decide (h < h') = false ∧ decide ((h : Int) = (h' : Int)) = false ∧ ((h : Int) == (h' : Int)) = false ∧ r = false)) →
      Calls Tryz.prog 70 #[adV ⟨s, h, l⟩, adV ⟨s', h', l'⟩] w fun e w' => e = .returned (.bool r) ∧ Fr N0 w w' := by
    rintro b b' r e1 e2 er hc
    have k29 := fun w => c29 w e1
    have q29 := fun w => d29 w e2
    clear c29 d29 e1 e2 er
    go_enter Tryz.func70, Tryz.ntmps70
    unfold adV
    go_wp2_with fail
    have HA1 := Lib.hid ((Blk.new w 30 #[Value.bool s, Value.int .u64 (h : Int), Value.int .u64 (l : Int)]).alloc (.cells #[Value.bool s', Value.int .u64 (h' : Int), Value.int .u64 (l' : Int)] 30))
    have HA2 := Lib.hid (Blk.alloc2 w (.cells #[Value.bool s, Value.int .u64 (h : Int), Value.int .u64 (l : Int)] 30) 30 #[Value.bool s', Value.int .u64 (h' : Int), Value.int .u64 (l' : Int)])
    have HF1 := Lib.hid (Fr.alloc (Fr.alloc (Fr.refl N0 w) (.cells #[Value.bool s, Value.int .u64 (h : Int), Value.int .u64 (l : Int)] 30)) (.cells #[Value.bool s', Value.int .u64 (h' : Int), Value.int .u64 (l' : Int)] 30))
    generalize World.alloc (w.alloc _) _ = w1 at *
    obtain ⟨g2, hg2⟩ : ∃ g2, g2 = w.heap.size + 1 := ⟨_, rfl⟩
    rw [← hg2] at HA2 ⊢
    have HG2 : Hid (w.heap.size ≤ g2) := Lib.hid (by omega)
    obtain ⟨g1, hg1⟩ : ∃ g1, g1 = w.heap.size := ⟨_, rfl⟩
    rw [← hg1] at HA1 ⊢
    have HG1 : Hid (w.heap.size ≤ g1) := Lib.hid (by omega)
    have HN1_2 : Hid (g1 ≠ g2) := Lib.hid (by omega)
    clear hg1 hg2
    have HZ1 : Hid (∀ W, Fr N0 w1 W → Blk W g1 30 #[Value.bool s, Value.int .u64 (h : Int), Value.int .u64 (l : Int)]) := Lib.hid fun W hf => HA1.out.fr hf id
    have HZ2 : Hid (∀ W, Fr N0 w1 W → Blk W g2 30 #[Value.bool s', Value.int .u64 (h' : Int), Value.int .u64 (l' : Int)]) := Lib.hid fun W hf => HA2.out.fr hf id
    have F := Lib.hid (Fr.refl N0 w1)
    obtain ⟨z1_0, z1_1, z1_2⟩ := (HZ1.out _ F.out).c3
    obtain ⟨z2_0, z2_1, z2_2⟩ := (HZ2.out _ F.out).c3
    rcases hc with ⟨rfl, he⟩ | ⟨rfl, rfl, he⟩ | ⟨rfl, rfl, rfl, rfl, he⟩ | ⟨rfl, rfl, rfl, rfl, he⟩ | ⟨rfl, rfl, rfl, hn, he⟩ | ⟨rfl, rfl, rfl, rfl, he⟩ | ⟨rfl, rfl, rfl, hn, hn2, hn3, he⟩
    all_goals
      have HE := Lib.hid he
      clear he
      go_wp2_with (first
        | (go_at_call_of 88 l; refine (k29 _).mono ?_; rintro e w2 ⟨rfl, hf⟩; have F := Lib.hid (F.out.trans hf); obtain ⟨z1_0, z1_1, z1_2⟩ := (HZ1.out _ F.out).c3; obtain ⟨z2_0, z2_1, z2_2⟩ := (HZ2.out _ F.out).c3)
        | (go_at_call_of 88 l'; refine (q29 _).mono ?_; rintro e w2 ⟨rfl, hf⟩; have F := Lib.hid (F.out.trans hf); obtain ⟨z1_0, z1_1, z1_2⟩ := (HZ1.out _ F.out).c3; obtain ⟨z2_0, z2_1, z2_2⟩ := (HZ2.out _ F.out).c3))
      go_ret
      exact ⟨retb HE.out.symm, HF1.out.trans F.out⟩
  refine key _ _ _ rfl rfl rfl ?_
  unfold ltA
  cases h1 : validA ⟨s, h, l⟩ with
  | false => exact .inl ⟨rfl, by simp⟩
  | true =>
    cases h2 : validA ⟨s', h', l'⟩ with
    | false => exact .inr (.inl ⟨rfl, rfl, by simp⟩)
    | true =>
      by_cases h4 : s = s'
      · subst h4
        rcases Nat.lt_trichotomy h h' with h5 | h5 | h5
        · refine .inr (.inr (.inr (.inr (.inl ⟨rfl, rfl, rfl, h5, ?_⟩))))
          rw [if_neg (by simp; omega), if_neg (by simp), if_pos (by simp; omega)]
          exact decide_eq_true h5
        · subst h5
          refine .inr (.inr (.inr (.inr (.inr (.inl ⟨rfl, rfl, rfl, rfl, ?_⟩)))))
          by_cases h6 : l = l'
          · subst h6; simp
          · rw [if_neg (by simp; omega), if_neg (by simp), if_neg (by simp)]
        · refine .inr (.inr (.inr (.inr (.inr (.inr ⟨rfl, rfl, rfl, decide_eq_false (by omega), decide_eq_false (by omega), by simp; omega, ?_⟩)))))
          rw [if_neg (by simp; omega), if_neg (by simp), if_pos (by simp; omega)]
          exact decide_eq_false (show ¬ h < h' by omega)
      · cases s <;> cases s'
        · exact absurd rfl h4
        · exact .inr (.inr (.inr (.inl ⟨rfl, rfl, rfl, rfl, by simp⟩)))
        · exact .inr (.inr (.inl ⟨rfl, rfl, rfl, rfl, by simp⟩))
        · exact absurd rfl h4
set_option maxHeartbeats 1600000 in
set_option maxRecDepth 100000 in
theorem rles (p q : Px) (hp : p.ok) (hq : q.ok) : Calls Tryz.prog 52 #[pxV p, pxV q] w fun e w' => e = .returned (.bool (ltP p q)) ∧ Fr N0 w w' := by
  obtain ⟨⟨s, h, l⟩, m⟩ := p
  obtain ⟨⟨s', h', l'⟩, m'⟩ := q
  have c14 : ∀ (w : World) {b : Bool}, validP ⟨⟨s, h, l⟩, m⟩ = b → Calls Tryz.prog 68 #[.agg #[.bool s, .int .u64 (h : Int), .int .u64 (l : Int), .int .i64 m]] w fun e w' => e = .returned (.bool b) ∧ Fr N0 w w' := fun w b hb => hb ▸ rvalP (w := w) ⟨⟨s, h, l⟩, m⟩ hp
  have d14 : ∀ (w : World) {b : Bool}, validP ⟨⟨s', h', l'⟩, m'⟩ = b → Calls Tryz.prog 68 #[.agg #[.bool s', .int .u64 (h' : Int), .int .u64 (l' : Int), .int .i64 m']] w fun e w' => e = .returned (.bool b) ∧ Fr N0 w w' := fun w b hb => hb ▸ rvalP (w := w) ⟨⟨s', h', l'⟩, m'⟩ hq
  have c44 : ∀ (w : World) {b : Bool}, ltA ⟨s, h, l⟩ ⟨s', h', l'⟩ = b → Calls Tryz.prog 70 #[.agg #[.bool s, .int .u64 (h : Int), .int .u64 (l : Int)], .agg #[.bool s', .int .u64 (h' : Int), .int .u64 (l' : Int)]] w fun e w' => e = .returned (.bool b) ∧ Fr N0 w w' := fun w b hb => hb ▸ rales (w := w) ⟨s, h, l⟩ ⟨s', h', l'⟩ hp.ad hq.ad
  obtain ⟨d, hdd⟩ : ∃ d, d = decide ((⟨s, h, l⟩ : Ad) = ⟨s', h', l'⟩) := ⟨_, rfl⟩
  have HDD := Lib.hid hdd
  have E : ∀ W, Sem.run Tryz.prog (binOp .eql 30 (.agg #[.bool s, .int .u64 (h : Int), .int .u64 (l : Int)]) (.agg #[.bool s', .int .u64 (h' : Int), .int .u64 (l' : Int)])) W = .ok (.bool d) W := fun W => by rw [hdd]; exact ad_eql_lit W
  have EG : ∀ X Y W, Sem.run Tryz.prog (eqGuard .eql 30 X Y (.agg #[.bool s, .int .u64 (h : Int), .int .u64 (l : Int)]) (.agg #[.bool s', .int .u64 (h' : Int), .int .u64 (l' : Int)])) W = .ok () W := fun X Y W => ad_guard_lit X Y W
  clear hdd
  have key : ∀ b b' c r, validP ⟨⟨s, h, l⟩, m⟩ = b → validP ⟨⟨s', h', l'⟩, m'⟩ = b' → ltA ⟨s, h, l⟩ ⟨s', h', l'⟩ = c → ltP ⟨⟨s, h, l⟩, m⟩ ⟨⟨s', h', l'⟩, m'⟩ = r → ((b = false ∧ r = false) ∨ (b = true ∧ b' = false ∧ r = false) ∨ (b = true ∧ b' = true ∧ c = true ∧ r = true)
      ∨ (b = true ∧ b' = true ∧ c = false ∧ d = false ∧ r = false) ∨ (b = true ∧ b' = true ∧ c = false ∧ d = true ∧ r = decide (m < m'))) →
      Calls Tryz.prog 52 #[pxV ⟨⟨s, h, l⟩, m⟩, pxV ⟨⟨s', h', l'⟩, m'⟩] w fun e w' => e = .returned (.bool r) ∧ Fr N0 w w' := by
    rintro b b' c r e1 e2 e3 er hc
    have k14 := fun w => c14 w e1
    have q14 := fun w => d14 w e2
    have k44 := fun w => c44 w e3
    clear c14 d14 c44 e1 e2 e3 er
    go_enter Tryz.func52, Tryz.ntmps52
    unfold pxV
    go_wp2_with fail
    have HA1 := Lib.hid ((Blk.new w 32 #[Value.bool s, Value.int .u64 (h : Int), Value.int .u64 (l : Int), Value.int .i64 m]).alloc (.cells #[Value.bool s', Value.int .u64 (h' : Int), Value.int .u64 (l' : Int), Value.int .i64 m'] 32))
    have HA2 := Lib.hid (Blk.alloc2 w (.cells #[Value.bool s, Value.int .u64 (h : Int), Value.int .u64 (l : Int), Value.int .i64 m] 32) 32 #[Value.bool s', Value.int .u64 (h' : Int), Value.int .u64 (l' : Int), Value.int .i64 m'])
    have HF1 := Lib.hid (Fr.alloc (Fr.alloc (Fr.refl N0 w) (.cells #[Value.bool s, Value.int .u64 (h : Int), Value.int .u64 (l : Int), Value.int .i64 m] 32)) (.cells #[Value.bool s', Value.int .u64 (h' : Int), Value.int .u64 (l' : Int), Value.int .i64 m'] 32))
    generalize World.alloc (w.alloc _) _ = w1 at *
    obtain ⟨g2, hg2⟩ : ∃ g2, g2 = w.heap.size + 1 := ⟨_, rfl⟩
    rw [← hg2] at HA2 ⊢
    have HG2 : Hid (w.heap.size ≤ g2) := Lib.hid (by omega)
    obtain ⟨g1, hg1⟩ : ∃ g1, g1 = w.heap.size := ⟨_, rfl⟩
    rw [← hg1] at HA1 ⊢
    have HG1 : Hid (w.heap.size ≤ g1) := Lib.hid (by omega)
    have HN1_2 : Hid (g1 ≠ g2) := Lib.hid (by omega)
    clear hg1 hg2
    have HZ1 : Hid (∀ W, Fr N0 w1 W → Blk W g1 32 #[Value.bool s, Value.int .u64 (h : Int), Value.int .u64 (l : Int), Value.int .i64 m]) := Lib.hid fun W hf => HA1.out.fr hf id
    have HZ2 : Hid (∀ W, Fr N0 w1 W → Blk W g2 32 #[Value.bool s', Value.int .u64 (h' : Int), Value.int .u64 (l' : Int), Value.int .i64 m']) := Lib.hid fun W hf => HA2.out.fr hf id
    have F := Lib.hid (Fr.refl N0 w1)
    obtain ⟨z1_0, z1_1, z1_2, z1_3⟩ := (HZ1.out _ F.out).c4
    obtain ⟨z2_0, z2_1, z2_2, z2_3⟩ := (HZ2.out _ F.out).c4
    rcases hc with ⟨rfl, he⟩ | ⟨rfl, rfl, he⟩ | ⟨rfl, rfl, rfl, he⟩ | ⟨rfl, rfl, rfl, rfl, he⟩ | ⟨rfl, rfl, rfl, rfl, he⟩
    all_goals
      have HE := Lib.hid he
      clear he
      go_wp2_with (first
        | (go_at_call_of 68 l; refine (k14 _).mono ?_; rintro e w2 ⟨rfl, hf⟩; have F := Lib.hid (F.out.trans hf); obtain ⟨z1_0, z1_1, z1_2, z1_3⟩ := (HZ1.out _ F.out).c4; obtain ⟨z2_0, z2_1, z2_2, z2_3⟩ := (HZ2.out _ F.out).c4)
        | (go_at_call_of 68 l'; refine (q14 _).mono ?_; rintro e w2 ⟨rfl, hf⟩; have F := Lib.hid (F.out.trans hf); obtain ⟨z1_0, z1_1, z1_2, z1_3⟩ := (HZ1.out _ F.out).c4; obtain ⟨z2_0, z2_1, z2_2, z2_3⟩ := (HZ2.out _ F.out).c4)
        | (go_at_call 70; refine (k44 _).mono ?_; rintro e w2 ⟨rfl, hf⟩; have F := Lib.hid (F.out.trans hf); obtain ⟨z1_0, z1_1, z1_2, z1_3⟩ := (HZ1.out _ F.out).c4; obtain ⟨z2_0, z2_1, z2_2, z2_3⟩ := (HZ2.out _ F.out).c4))
      go_ret
      exact ⟨retb HE.out.symm, HF1.out.trans F.out⟩
  refine key _ _ _ _ rfl rfl rfl rfl ?_
  have hd := HDD.out
  unfold ltP
  cases h1 : validP ⟨⟨s, h, l⟩, m⟩ with
  | false => exact .inl ⟨rfl, by simp⟩
  | true =>
    cases h2 : validP ⟨⟨s', h', l'⟩, m'⟩ with
    | false => exact .inr (.inl ⟨rfl, rfl, by simp⟩)
    | true =>
      cases h3 : ltA ⟨s, h, l⟩ ⟨s', h', l'⟩ with
      | true => exact .inr (.inr (.inl ⟨rfl, rfl, rfl, by simp⟩))
      | false =>
        cases hdc : d with
        | false =>
          have h4 : ¬ ((⟨s, h, l⟩ : Ad) = ⟨s', h', l'⟩) := of_decide_eq_false (hd.symm.trans hdc)
          exact .inr (.inr (.inr (.inl ⟨rfl, rfl, rfl, rfl, by rw [decide_eq_false h4]; simp⟩)))
        | true =>
          have h4 : (⟨s, h, l⟩ : Ad) = ⟨s', h', l'⟩ := of_decide_eq_true (hd.symm.trans hdc)
          exact .inr (.inr (.inr (.inr ⟨rfl, rfl, rfl, rfl, by simp [h4]⟩)))
end
end Go.Proofs.YtnklbeigikcfkaaGreatDoor
namespace Go.Proofs.YtnklbeigikcfkaaGreatDoor
open Go.RowKit
/-- How many first bits two addresses have in common; -1: they are not alike. -/
def CmR (a b : Ad) (r : Int) : Prop := if validA a = true ∧ validA b = true ∧ a.six = b.six then ∃ n : Nat, r = (n : Int) ∧ CmnIs a b n else r = -1
theorem CmR.eq {a b : Ad} {r q : Int} (h : CmR a b r) (k : CmR a b q) : r = q := by
  unfold CmR at h k
  split at h
  · rename_i hc
    rw [if_pos hc] at k
    obtain ⟨n, rfl, h1⟩ := h
    obtain ⟨m, rfl, k1⟩ := k
    rw [h1.eq k1]
  · rename_i hc
    rw [if_neg hc] at k
    rw [h, k]
theorem xor_u8 (a b : Nat) (ha : a < 256) (hb : b < 256) : bits .xor .u8 (a : Int) (b : Int) = ((a ^^^ b : Nat) : Int) := by
  have hx : a ^^^ b < 2 ^ 8 := Nat.xor_lt_two_pow (by omega) (by omega)
  have h1 : (BitVec.ofInt 8 (a : Int)).toNat = a := by
    rw [BitVec.ofInt_natCast, BitVec.toNat_ofNat]; exact Nat.mod_eq_of_lt (by omega)
  have h2 : (BitVec.ofInt 8 (b : Int)).toNat = b := by
    rw [BitVec.ofInt_natCast, BitVec.toNat_ofNat]; exact Nat.mod_eq_of_lt (by omega)
  show IntKind.u8.wrap ((BitVec.ofInt 8 (a : Int) ^^^ BitVec.ofInt 8 (b : Int)).toNat : Int) = _
  rw [BitVec.toNat_xor, h1, h2, IntKind.wrap_u8]
  omega
theorem Bx.fr' {w wr w' : World} {v : Value} {l : List Nat} (k : Bx w wr v l) (hF : Fr N0 wr w') : Bx w w' v l := by
  obtain ⟨A, c, h1, h2, h3, h4⟩ := k
  exact ⟨A, c, h1, h2.fr hF fun _ _ => id, h3, h4.trans hF⟩
section
variable {w : World}
end
end Go.Proofs.YtnklbeigikcfkaaGreatDoor
namespace Go.Proofs.YtnklbeigikcfkaaGreatDoor
open Go.RowKit
theorem cm_ex {a b : Ad} (ha : a.ok) (hb : b.ok) : ∃ r, CmR a b r := by
  by_cases hc : validA a = true ∧ validA b = true ∧ a.six = b.six
  · obtain ⟨va, vb, hs⟩ := hc
    have hw : widthA b = widthA a := by unfold widthA; rw [hs]
    have key : ∀ k, k ≤ widthA a → (∃ n, CmnIs a b n) ∨ num a / 2 ^ (widthA a - k) = num b / 2 ^ (widthA a - k) := by
      intro k
      induction k with
      | zero =>
        intro _
        right
        have h1 := num_lt ha va
        have h2 := num_lt hb vb
        rw [hw] at h2
        rw [Nat.sub_zero, Nat.div_eq_of_lt h1, Nat.div_eq_of_lt h2]
      | succ k ih =>
        intro hk
        rcases ih (by omega) with h | h
        · exact .inl h
        · by_cases e : num a / 2 ^ (widthA a - 1 - k) % 2 = num b / 2 ^ (widthA a - 1 - k) % 2
          · exact .inr (CmnIs.step (by omega) h e)
          · exact .inl ⟨k, by omega, h, .inr e⟩
    rcases key _ (Nat.le_refl _) with ⟨n, h⟩ | h
    · exact ⟨n, by unfold CmR; rw [if_pos ⟨va, vb, hs⟩]; exact ⟨n, rfl, h⟩⟩
    · exact ⟨widthA a, by unfold CmR; rw [if_pos ⟨va, vb, hs⟩]; exact ⟨widthA a, rfl, Nat.le_refl _, h, .inl rfl⟩⟩
  · exact ⟨-1, by unfold CmR; rw [if_neg hc]⟩
section
variable {w : World}
set_option maxHeartbeats 1600000 in
set_option maxRecDepth 100000 in
theorem rcom (a b : Ad) (ha : a.ok) (hb : b.ok) : Calls Tryz.prog 73 #[adV a, adV b] w fun e w' => ∃ r, e = .returned (.int .i64 r) ∧ CmR a b r ∧ Fr N0 w w' := by
  have ka := fun (w : World) (i : Int) (h1 : -9223372036854775808 ≤ i) (h2 : i ≤ 9223372036854775807) => rbit (w := w) a ha i h1 h2
  have kb := fun (w : World) (i : Int) (h1 : -9223372036854775808 ≤ i) (h2 : i ≤ 9223372036854775807) => rbit (w := w) b hb i h1 h2
  have hbn1 := Lib.hid fun (va : validA a = true) (i : Nat) (hi : i < widthA a) => bit_num ha va hi
  have hbn2 := Lib.hid fun (vb : validA b = true) (i : Nat) (hi : i < widthA b) => bit_num hb vb hi
  have hnl1 := Lib.hid fun (va : validA a = true) => num_lt ha va
  have hnl2 := Lib.hid fun (vb : validA b = true) => num_lt hb vb
  obtain ⟨s, h, l⟩ := a
  obtain ⟨s', h', l'⟩ := b
  clear ha hb
  have c29 : ∀ (w : World) {b : Bool}, validA ⟨s, h, l⟩ = b → Calls Tryz.prog 88 #[.agg #[.bool s, .int .u64 (h : Int), .int .u64 (l : Int)]] w fun e w' => e = .returned (.bool b) ∧ Fr N0 w w' := fun w b hb => hb ▸ rval (w := w) ⟨s, h, l⟩
  have d29 : ∀ (w : World) {b : Bool}, validA ⟨s', h', l'⟩ = b → Calls Tryz.prog 88 #[.agg #[.bool s', .int .u64 (h' : Int), .int .u64 (l' : Int)]] w fun e w' => e = .returned (.bool b) ∧ Fr N0 w w' := fun w b hb => hb ▸ rval (w := w) ⟨s', h', l'⟩
  have key : ∀ b b', validA ⟨s, h, l⟩ = b → validA ⟨s', h', l'⟩ = b' → ((b = false ∧ CmR ⟨s, h, l⟩ ⟨s', h', l'⟩ (-1)) ∨ (b = true ∧ b' = false ∧ CmR ⟨s, h, l⟩ ⟨s', h', l'⟩ (-1)) ∨ (b = true ∧ b' = true ∧ decide (s = s') = false ∧ (s == s') = false ∧ (s != s') = true ∧ CmR ⟨s, h, l⟩ ⟨s', h', l'⟩ (-1))) →
      Calls Tryz.prog 73 #[adV ⟨s, h, l⟩, adV ⟨s', h', l'⟩] w fun e w' => ∃ r, e = .returned (.int .i64 r) ∧ CmR ⟨s, h, l⟩ ⟨s', h', l'⟩ r ∧ Fr N0 w w' := by
    rintro b b' e1 e2 hc
    have k29 := fun w => c29 w e1
    have q29 := fun w => d29 w e2
    clear c29 d29 e1 e2 ka kb
    go_enter Tryz.func73, Tryz.ntmps73
    unfold adV
    go_wp2_with fail
    have HA1 := Lib.hid ((Blk.new w 30 #[Value.bool s, Value.int .u64 (h : Int), Value.int .u64 (l : Int)]).alloc (.cells #[Value.bool s', Value.int .u64 (h' : Int), Value.int .u64 (l' : Int)] 30))
    have HA2 := Lib.hid (Blk.alloc2 w (.cells #[Value.bool s, Value.int .u64 (h : Int), Value.int .u64 (l : Int)] 30) 30 #[Value.bool s', Value.int .u64 (h' : Int), Value.int .u64 (l' : Int)])
    have HF1 := Lib.hid (Fr.alloc (Fr.alloc (Fr.refl N0 w) (.cells #[Value.bool s, Value.int .u64 (h : Int), Value.int .u64 (l : Int)] 30)) (.cells #[Value.bool s', Value.int .u64 (h' : Int), Value.int .u64 (l' : Int)] 30))
    generalize World.alloc (w.alloc _) _ = w1 at *
    obtain ⟨g2, hg2⟩ : ∃ g2, g2 = w.heap.size + 1 := ⟨_, rfl⟩
    rw [← hg2] at HA2 ⊢
    have HG2 : Hid (w.heap.size ≤ g2) := Lib.hid (by omega)
    obtain ⟨g1, hg1⟩ : ∃ g1, g1 = w.heap.size := ⟨_, rfl⟩
    rw [← hg1] at HA1 ⊢
    have HG1 : Hid (w.heap.size ≤ g1) := Lib.hid (by omega)
    have HN1_2 : Hid (g1 ≠ g2) := Lib.hid (by omega)
    clear hg1 hg2
    have HZ1 : Hid (∀ W, Fr N0 w1 W → Blk W g1 30 #[Value.bool s, Value.int .u64 (h : Int), Value.int .u64 (l : Int)]) := Lib.hid fun W hf => HA1.out.fr hf id
    have HZ2 : Hid (∀ W, Fr N0 w1 W → Blk W g2 30 #[Value.bool s', Value.int .u64 (h' : Int), Value.int .u64 (l' : Int)]) := Lib.hid fun W hf => HA2.out.fr hf id
    have F := Lib.hid (Fr.refl N0 w1)
    obtain ⟨z1_0, z1_1, z1_2⟩ := (HZ1.out _ F.out).c3
    obtain ⟨z2_0, z2_1, z2_2⟩ := (HZ2.out _ F.out).c3
    rcases hc with ⟨rfl, he⟩ | ⟨rfl, rfl, he⟩ | ⟨rfl, rfl, hd, hd', hd2, he⟩
    all_goals
      have HE := Lib.hid he
      clear he
      go_wp2_with (first
        | (go_at_call_of 88 l; refine (k29 _).mono ?_; rintro e w2 ⟨rfl, hf⟩; have F := Lib.hid (F.out.trans hf); obtain ⟨z1_0, z1_1, z1_2⟩ := (HZ1.out _ F.out).c3; obtain ⟨z2_0, z2_1, z2_2⟩ := (HZ2.out _ F.out).c3)
        | (go_at_call_of 88 l'; refine (q29 _).mono ?_; rintro e w2 ⟨rfl, hf⟩; have F := Lib.hid (F.out.trans hf); obtain ⟨z1_0, z1_1, z1_2⟩ := (HZ1.out _ F.out).c3; obtain ⟨z2_0, z2_1, z2_2⟩ := (HZ2.out _ F.out).c3))
      go_ret
      exact ⟨_, rfl, HE.out, HF1.out.trans F.out⟩
  by_cases hgood : validA ⟨s, h, l⟩ = true ∧ validA ⟨s', h', l'⟩ = true ∧ s = s'
  · obtain ⟨va, vb, rfl⟩ := hgood
    clear key
    have k29 := fun w => c29 w va
    have q29 := fun w => d29 w vb
    obtain ⟨wi, hwi⟩ : ∃ wi, wi = widthA ⟨s, h, l⟩ := ⟨_, rfl⟩
    have hwi2 : wi = widthA ⟨s, h', l'⟩ := hwi
    have k33 : ∀ w : World, Calls Tryz.prog 89 #[.agg #[.bool s, .int .u64 (h : Int), .int .u64 (l : Int)]] w fun e w' => e = .returned (.int .i64 (wi : Int)) ∧ Fr N0 w w' := fun w => by rw [hwi]; exact rwid (w := w) ⟨s, h, l⟩
    have hw128 : wi ≤ 128 := by rw [hwi]; unfold widthA; split <;> omega
    have N1 := hnl1.out va
    have N2 := hnl2.out vb
    have B1 := Lib.hid (hbn1.out va)
    have B2 := Lib.hid (hbn2.out vb)
    have HZ0 := Lib.hid (show num ⟨s, h, l⟩ / 2 ^ (wi - 0) = num ⟨s, h', l'⟩ / 2 ^ (wi - 0) by
      rw [Nat.sub_zero, hwi, Nat.div_eq_of_lt N1, ← hwi, hwi2, Nat.div_eq_of_lt N2])
    have HW := Lib.hid hwi
    have HW2 := Lib.hid hwi2
    have HV := Lib.hid fun (n : Nat) (hc : CmnIs ⟨s, h, l⟩ ⟨s, h', l'⟩ n) => (show CmR ⟨s, h, l⟩ ⟨s, h', l'⟩ (n : Int) by unfold CmR; rw [if_pos ⟨va, vb, rfl⟩]; exact ⟨n, rfl, hc⟩)
    clear c29 d29 va vb hwi hwi2 N1 N2 hbn1 hbn2 hnl1 hnl2
    go_enter Tryz.func73, Tryz.ntmps73
    unfold adV at *
    go_wp2_with fail
    have HA1 := Lib.hid ((Blk.new w 30 #[Value.bool s, Value.int .u64 (h : Int), Value.int .u64 (l : Int)]).alloc (.cells #[Value.bool s, Value.int .u64 (h' : Int), Value.int .u64 (l' : Int)] 30))
    have HA2 := Lib.hid (Blk.alloc2 w (.cells #[Value.bool s, Value.int .u64 (h : Int), Value.int .u64 (l : Int)] 30) 30 #[Value.bool s, Value.int .u64 (h' : Int), Value.int .u64 (l' : Int)])
    have HF1 := Lib.hid (Fr.alloc (Fr.alloc (Fr.refl N0 w) (.cells #[Value.bool s, Value.int .u64 (h : Int), Value.int .u64 (l : Int)] 30)) (.cells #[Value.bool s, Value.int .u64 (h' : Int), Value.int .u64 (l' : Int)] 30))
    generalize World.alloc (w.alloc _) _ = w1 at *
    obtain ⟨g2, hg2⟩ : ∃ g2, g2 = w.heap.size + 1 := ⟨_, rfl⟩
    rw [← hg2] at HA2 ⊢
    have HG2 : Hid (w.heap.size ≤ g2) := Lib.hid (by omega)
    obtain ⟨g1, hg1⟩ : ∃ g1, g1 = w.heap.size := ⟨_, rfl⟩
    rw [← hg1] at HA1 ⊢
    have HG1 : Hid (w.heap.size ≤ g1) := Lib.hid (by omega)
    have HN1_2 : Hid (g1 ≠ g2) := Lib.hid (by omega)
    clear hg1 hg2
    have HZ1 : Hid (∀ W, Fr N0 w1 W → Blk W g1 30 #[Value.bool s, Value.int .u64 (h : Int), Value.int .u64 (l : Int)]) := Lib.hid fun W hf => HA1.out.fr hf id
    have HZ2 : Hid (∀ W, Fr N0 w1 W → Blk W g2 30 #[Value.bool s, Value.int .u64 (h' : Int), Value.int .u64 (l' : Int)]) := Lib.hid fun W hf => HA2.out.fr hf id
    have F := Lib.hid (Fr.refl N0 w1)
    obtain ⟨z1_0, z1_1, z1_2⟩ := (HZ1.out _ F.out).c3
    obtain ⟨z2_0, z2_1, z2_2⟩ := (HZ2.out _ F.out).c3
    go_wp2_with (first
      | (go_at_call_of 88 l; refine (k29 _).mono ?_; rintro e w2 ⟨rfl, hf⟩; have F := Lib.hid (F.out.trans hf); obtain ⟨z1_0, z1_1, z1_2⟩ := (HZ1.out _ F.out).c3; obtain ⟨z2_0, z2_1, z2_2⟩ := (HZ2.out _ F.out).c3)
      | (go_at_call_of 88 l'; refine (q29 _).mono ?_; rintro e w3 ⟨rfl, hf⟩; have F := Lib.hid (F.out.trans hf); obtain ⟨z1_0, z1_1, z1_2⟩ := (HZ1.out _ F.out).c3; obtain ⟨z2_0, z2_1, z2_2⟩ := (HZ2.out _ F.out).c3))
    clear z1_0 z1_1 z1_2 z2_0 z2_1 z2_2 k29 q29 hf
    have F3 := F
    go_loopw [7] (fun i wr => ∃ n : Nat, n ≤ wi ∧ i = .int .i64 (n : Int) ∧ num ⟨s, h, l⟩ / 2 ^ (wi - n) = num ⟨s, h', l'⟩ / 2 ^ (wi - n) ∧ Fr N0 w1 wr) (fun i _ => wi + 1 - (RowKit.intOf i).toNat)
    case atStart => exact ⟨0, Nat.zero_le _, rfl, HZ0.out, F3.out⟩
    case round =>
      obtain ⟨n, hn, rfl, hq, hF⟩ := hrel
      have HQ := Lib.hid hq
      have G := Lib.hid hF
      clear hq hF
      have u0 := fun x : Fam wr => (HZ1.out x.w (G.out.trans x.fr)).c3.1
      have u1 := fun x : Fam wr => (HZ1.out x.w (G.out.trans x.fr)).c3.2.1
      have u2 := fun x : Fam wr => (HZ1.out x.w (G.out.trans x.fr)).c3.2.2
      have v0 := fun x : Fam wr => (HZ2.out x.w (G.out.trans x.fr)).c3.1
      have v1 := fun x : Fam wr => (HZ2.out x.w (G.out.trans x.fr)).c3.2.1
      have v2 := fun x : Fam wr => (HZ2.out x.w (G.out.trans x.fr)).c3.2.2
      have qa := fun w => ka w (n : Int) (by omega) (by omega)
      have qb := fun w => kb w (n : Int) (by omega) (by omega)
      clear ka kb
      by_cases hnw : n < wi
      · have E1 := B1.out n (by rw [← HW.out]; exact hnw)
        have E2 := B2.out n (by rw [← HW2.out]; exact hnw)
        rw [← HW.out] at E1
        rw [← HW2.out] at E2
        generalize bitA ⟨s, h, l⟩ (n : Int) = x at *
        generalize bitA ⟨s, h', l'⟩ (n : Int) = y at *
        have HE1 := Lib.hid E1
        have HE2 := Lib.hid E2
        clear E1 E2
        have key : ∀ b : Bool, decide (x = y) = b → (x == y) = b → decide ((x : Int) = (y : Int)) = b → ((x : Int) == (y : Int)) = b → (b = true ∨ b = false) := fun b _ _ _ _ => by cases b <;> simp
        by_cases hxy : x = y
        · subst hxy
          have HST := Lib.hid (CmnIs.step (a := ⟨s, h, l⟩) (b := ⟨s, h', l'⟩) (n := n) (by rw [← HW.out]; exact hnw) (by rw [← HW.out]; exact HQ.out) (by rw [← HW.out, ← HE1.out, ← HE2.out]))
          rw [← HW.out] at HST
          go_wp2_with fail
          refine wp_region_fam (by kernel_rfl) (by kernel_rfl) ?_
          repeat (go_big_quiet_step ((first
            | (go_at_call 89; exact fam_call (k33 _))
            | (go_at_call_of 92 l; exact fam_call (qa _))
            | (go_at_call_of 92 l'; exact fam_call (qb _)))))
          first | refine wpQuiet_nil ?_ | (go_big_quiet_want; go_big_quiet_op; done)
          rintro _ ⟨xq, rfl⟩
          go_wp2_with fail
          go_roundw
          case rel => exact ⟨n + 1, by omega, by go_num, HST.out, G.out.trans xq.fr⟩
          case measure => simp [RowKit.intOf]; omega
        · have d1 : decide (x = y) = false := decide_eq_false hxy
          have d2 : decide ((x : Int) = (y : Int)) = false := decide_eq_false (by omega)
          have d3 : ((x : Int) == (y : Int)) = false := by simp; omega
          have HXY := Lib.hid hxy
          clear hxy
          go_wp2_with fail
          refine wp_region_fam (by kernel_rfl) (by kernel_rfl) ?_
          repeat (go_big_quiet_step ((first
            | (go_at_call 89; exact fam_call (k33 _))
            | (go_at_call_of 92 l; exact fam_call (qa _))
            | (go_at_call_of 92 l'; exact fam_call (qb _)))))
          first | refine wpQuiet_nil ?_ | (go_big_quiet_want; go_big_quiet_op; done)
          rintro _ ⟨xq, rfl⟩
          go_wp2_with fail
          go_ret
          refine ⟨_, rfl, ?_, HF1.out.trans (G.out.trans xq.fr)⟩
          exact HV.out n ⟨by rw [← HW.out]; omega, by rw [← HW.out]; exact HQ.out, .inr (by rw [← HW.out, ← HE1.out, ← HE2.out]; exact HXY.out)⟩
      · obtain rfl : n = wi := by omega
        go_wp2_with fail
        refine wp_region_fam (by kernel_rfl) (by kernel_rfl) ?_
        repeat (go_big_quiet_step ((first
          | (go_at_call 89; exact fam_call (k33 _)))))
        first | refine wpQuiet_nil ?_ | (go_big_quiet_want; go_big_quiet_op; done)
        rintro _ ⟨xq, rfl⟩
        go_wp2_with fail
        go_ret
        refine ⟨_, rfl, ?_, HF1.out.trans (G.out.trans xq.fr)⟩
        exact HV.out n ⟨by rw [← HW.out]; omega, by rw [← HW.out]; exact HQ.out, .inl HW.out⟩
  · refine key _ _ rfl rfl ?_
    unfold CmR
    have hne : ¬ (validA ⟨s, h, l⟩ = true ∧ validA ⟨s', h', l'⟩ = true ∧ (⟨s, h, l⟩ : Ad).six = (⟨s', h', l'⟩ : Ad).six) := hgood
    rw [if_neg hne]
    cases h1 : validA ⟨s, h, l⟩ with
    | false => exact .inl ⟨rfl, rfl⟩
    | true =>
      cases h2 : validA ⟨s', h', l'⟩ with
      | false => exact .inr (.inl ⟨rfl, rfl, rfl⟩)
      | true =>
        have h3 : s ≠ s' := fun e => hgood ⟨h1, h2, e⟩
        exact .inr (.inr ⟨rfl, rfl, by simpa using h3, by simpa using h3, by simpa using h3, rfl⟩)
end
end Go.Proofs.YtnklbeigikcfkaaGreatDoor
namespace Go.Proofs.YtnklbeigikcfkaaGreatDoor
open Go.RowKit
theorem holds_r {p : Px} {a : Ad} (hp : p.ad.ok) (ha : a.ok) {r : Int} (hr : CmR p.ad a r) (hv : validP p = true) : holdsP p a = decide (p.bits ≤ r) := by
  obtain ⟨k1, k2, k3, k4⟩ := (validP_iff hp).1 hv
  unfold CmR at hr
  by_cases hc : validA p.ad = true ∧ validA a = true ∧ p.ad.six = a.six
  · rw [if_pos hc] at hr
    obtain ⟨n, rfl, hn⟩ := hr
    exact holds_cmn hp ha hv hc.2.1 hc.2.2 hn
  · rw [if_neg hc] at hr
    subst hr
    rw [decide_eq_false (by omega)]
    unfold holdsP
    cases h2 : validA a with
    | false => simp
    | true =>
      have h3 : ¬ p.ad.six = a.six := fun h => hc ⟨k1, h2, h⟩
      simp [h3]
section
variable {w : World}
set_option maxHeartbeats 1600000 in
set_option maxRecDepth 100000 in
theorem rhol (p : Px) (a : Ad) (hp : p.ok) (ha : a.ok) : Calls Tryz.prog 54 #[pxV p, adV a] w fun e w' => e = .returned (.bool (holdsP p a)) ∧ Fr N0 w w' := by
  obtain ⟨r, hr⟩ := cm_ex hp.ad ha
  have HR := Lib.hid fun hv => holds_r hp.ad ha hr hv
  have kc : ∀ w : World, Calls Tryz.prog 73 #[adV p.ad, adV a] w fun e w' => e = .returned (.int .i64 r) ∧ Fr N0 w w' := fun w =>
    (rcom (w := w) p.ad a hp.ad ha).mono fun e w' ⟨q, he, hq, hf⟩ => ⟨by rw [he, hq.eq hr], hf⟩
  have kv := fun w => rvalP (w := w) p hp
  obtain ⟨v, hv⟩ : ∃ v, v = validP p := ⟨_, rfl⟩
  rw [← hv] at kv
  have HV := Lib.hid hv
  clear hv hr ha hp
  have key : ∀ res, holdsP p a = res → ((v = false ∧ res = false) ∨ (v = true ∧ res = decide (p.bits ≤ r))) → Calls Tryz.prog 54 #[pxV p, adV a] w fun e w' => e = .returned (.bool res) ∧ Fr N0 w w' := by
    intro res _ hc
    obtain ⟨⟨s, h, l⟩, m⟩ := p
    obtain ⟨s', h', l'⟩ := a
    unfold pxV adV at *
    simp only at kc kv hc
    go_enter Tryz.func54, Tryz.ntmps54
    go_wp2_with fail
    have HA1 := Lib.hid ((Blk.new w 32 #[Value.bool s, Value.int .u64 (h : Int), Value.int .u64 (l : Int), Value.int .i64 m]).alloc (.cells #[Value.bool s', Value.int .u64 (h' : Int), Value.int .u64 (l' : Int)] 30))
    have HA2 := Lib.hid (Blk.alloc2 w (.cells #[Value.bool s, Value.int .u64 (h : Int), Value.int .u64 (l : Int), Value.int .i64 m] 32) 30 #[Value.bool s', Value.int .u64 (h' : Int), Value.int .u64 (l' : Int)])
    have HF1 := Lib.hid (Fr.alloc (Fr.alloc (Fr.refl N0 w) (.cells #[Value.bool s, Value.int .u64 (h : Int), Value.int .u64 (l : Int), Value.int .i64 m] 32)) (.cells #[Value.bool s', Value.int .u64 (h' : Int), Value.int .u64 (l' : Int)] 30))
    generalize World.alloc (w.alloc _) _ = w1 at *
    obtain ⟨g2, hg2⟩ : ∃ g2, g2 = w.heap.size + 1 := ⟨_, rfl⟩
    rw [← hg2] at HA2 ⊢
    have HG2 : Hid (w.heap.size ≤ g2) := Lib.hid (by omega)
    obtain ⟨g1, hg1⟩ : ∃ g1, g1 = w.heap.size := ⟨_, rfl⟩
    rw [← hg1] at HA1 ⊢
    have HG1 : Hid (w.heap.size ≤ g1) := Lib.hid (by omega)
    have HN1_2 : Hid (g1 ≠ g2) := Lib.hid (by omega)
    clear hg1 hg2
    have HZ1 : Hid (∀ W, Fr N0 w1 W → Blk W g1 32 #[Value.bool s, Value.int .u64 (h : Int), Value.int .u64 (l : Int), Value.int .i64 m]) := Lib.hid fun W hf => HA1.out.fr hf id
    have HZ2 : Hid (∀ W, Fr N0 w1 W → Blk W g2 30 #[Value.bool s', Value.int .u64 (h' : Int), Value.int .u64 (l' : Int)]) := Lib.hid fun W hf => HA2.out.fr hf id
    have F := Lib.hid (Fr.refl N0 w1)
    obtain ⟨z1_0, z1_1, z1_2, z1_3⟩ := (HZ1.out _ F.out).c4
    obtain ⟨z2_0, z2_1, z2_2⟩ := (HZ2.out _ F.out).c3
    go_wp2_with (go_at_call 68; refine (kv _).mono ?_; rintro e w2 ⟨rfl, hf⟩; have F := Lib.hid (F.out.trans hf); obtain ⟨z1_0, z1_1, z1_2, z1_3⟩ := (HZ1.out _ F.out).c4; obtain ⟨z2_0, z2_1, z2_2⟩ := (HZ2.out _ F.out).c3)
    have u0 := fun x : Fam w2 => (HZ1.out x.w (F.out.trans x.fr)).c4.1
    have u1 := fun x : Fam w2 => (HZ1.out x.w (F.out.trans x.fr)).c4.2.1
    have u2 := fun x : Fam w2 => (HZ1.out x.w (F.out.trans x.fr)).c4.2.2.1
    have u3 := fun x : Fam w2 => (HZ1.out x.w (F.out.trans x.fr)).c4.2.2.2
    have v0 := fun x : Fam w2 => (HZ2.out x.w (F.out.trans x.fr)).c3.1
    have v1 := fun x : Fam w2 => (HZ2.out x.w (F.out.trans x.fr)).c3.2.1
    have v2 := fun x : Fam w2 => (HZ2.out x.w (F.out.trans x.fr)).c3.2.2
    clear z1_0 z1_1 z1_2 z1_3 z2_0 z2_1 z2_2 hf kv
    rcases hc with ⟨rfl, he⟩ | ⟨rfl, he⟩
    all_goals
      have HE := Lib.hid he
      clear he
      refine wp_region_fam (by kernel_rfl) (by kernel_rfl) ?_
      repeat (go_big_quiet_step ((go_at_call 73; exact fam_call (kc _))))
      first | refine wpQuiet_nil ?_ | (go_big_quiet_want; go_big_quiet_op; done)
      rintro _ ⟨xq, rfl⟩
      go_wp2_with fail
      go_ret
      exact ⟨retb HE.out.symm, HF1.out.trans (F.out.trans xq.fr)⟩
  refine key _ rfl ?_
  cases hv : v with
  | false => exact .inl ⟨rfl, by have := HV.out; rw [hv] at this; unfold holdsP; rw [← this]; rfl⟩
  | true => exact .inr ⟨rfl, HR.out (by rw [← HV.out]; exact hv)⟩
end
end Go.Proofs.YtnklbeigikcfkaaGreatDoor
