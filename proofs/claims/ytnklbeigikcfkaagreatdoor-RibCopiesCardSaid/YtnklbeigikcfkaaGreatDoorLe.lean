/- addr.Less, prefix.Less. -/
import Derived.Test.YtnklbeigikcfkaaGreatDoorCo
import Derived.Test.YtnklbeigikcfkaaGreatDoorPb
namespace Go.Proofs.YtnklbeigikcfkaaGreatDoor
open Go.RowKit
section
variable {w : World}
set_option maxHeartbeats 1600000 in
set_option maxRecDepth 100000 in
theorem ales_ (a b : Ad) (ha : a.ok) (hb : b.ok) : Calls Tryz.prog 59 #[adV a, adV b] w fun e w' => e = .returned (.bool (ltA a b)) ∧ Fr N0 w w' := by
  obtain ⟨s, h, l⟩ := a
  obtain ⟨s', h', l'⟩ := b
  obtain ⟨ha1, ha2⟩ := ha
  obtain ⟨hb1, hb2⟩ := hb
  simp only at ha1 ha2 hb1 hb2
  have c29 : ∀ (w : World) {b : Bool}, validA ⟨s, h, l⟩ = b → Calls Tryz.prog 65 #[.agg #[.bool s, .int .u64 (h : Int), .int .u64 (l : Int)]] w fun e w' => e = .returned (.bool b) ∧ Fr N0 w w' := fun w b hb => hb ▸ aval (w := w) ⟨s, h, l⟩
  have d29 : ∀ (w : World) {b : Bool}, validA ⟨s', h', l'⟩ = b → Calls Tryz.prog 65 #[.agg #[.bool s', .int .u64 (h' : Int), .int .u64 (l' : Int)]] w fun e w' => e = .returned (.bool b) ∧ Fr N0 w w' := fun w b hb => hb ▸ aval (w := w) ⟨s', h', l'⟩
  obtain ⟨d, hdd⟩ : ∃ d, d = decide ((⟨s, h, l⟩ : Ad) = ⟨s', h', l'⟩) := ⟨_, rfl⟩
  have HDD := Lib.hid hdd
  have E : ∀ W, Sem.run Tryz.prog (binOp .eql 30 (.agg #[.bool s, .int .u64 (h : Int), .int .u64 (l : Int)]) (.agg #[.bool s', .int .u64 (h' : Int), .int .u64 (l' : Int)])) W = .ok (.bool d) W := fun W => by rw [hdd]; exact ad_eql_lit W
  have EG : ∀ X Y W, Sem.run Tryz.prog (eqGuard .eql 30 X Y (.agg #[.bool s, .int .u64 (h : Int), .int .u64 (l : Int)]) (.agg #[.bool s', .int .u64 (h' : Int), .int .u64 (l' : Int)])) W = .ok () W := fun X Y W => ad_guard_lit X Y W
  clear hdd
  have key : ∀ b b' r, validA ⟨s, h, l⟩ = b → validA ⟨s', h', l'⟩ = b' → ltA ⟨s, h, l⟩ ⟨s', h', l'⟩ = r → ((b = false ∧ r = false) ∨ (b = true ∧ b' = false ∧ r = false) ∨ (b = true ∧ b' = true ∧ d = true ∧ r = false)
      ∨ (b = true ∧ b' = true ∧ d = false ∧ s = true ∧ s' = false ∧ r = false) ∨ (b = true ∧ b' = true ∧ d = false ∧ s = false ∧ s' = true ∧ r = true)
      ∨ (b = true ∧ b' = true ∧ d = false ∧ s = s' ∧ h ≠ h' ∧ (h : Int) ≠ (h' : Int) ∧ r = decide (h < h')) ∨ (b = true ∧ b' = true ∧ d = false ∧ s = s' ∧ h = h' ∧ r = decide (l < l'))) →
      Calls Tryz.prog 59 #[adV ⟨s, h, l⟩, adV ⟨s', h', l'⟩] w fun e w' => e = .returned (.bool r) ∧ Fr N0 w w' := by
    rintro b b' r e1 e2 er hc
    have k29 := fun w => c29 w e1
    have q29 := fun w => d29 w e2
    clear c29 d29 e1 e2 er
    go_enter Tryz.func59, Tryz.ntmps59
    unfold adV
    go_wp2_with fail
    have HA1 := Lib.hid ((Blk.new w 30 #[Value.bool s, Value.int .u64 (h : Int), Value.int .u64 (l : Int)]).alloc (.cells #[Value.bool s', Value.int .u64 (h' : Int), Value.int .u64 (l' : Int)] 30))
    have HA2 := Lib.hid (Blk.alloc2 w (.cells #[Value.bool s, Value.int .u64 (h : Int), Value.int .u64 (l : Int)] 30) 30 #[Value.bool s', Value.int .u64 (h' : Int), Value.int .u64 (l' : Int)])
    have HF1 := Lib.hid (Fr.alloc (Fr.alloc (Fr.refl N0 w) (.cells #[Value.bool s, Value.int .u64 (h : Int), Value.int .u64 (l : Int)] 30)) (.cells #[Value.bool s', Value.int .u64 (h' : Int), Value.int .u64 (l' : Int)] 30))
    generalize World.alloc (w.alloc _) _ = w1 at *
    obtain ⟨g2, hg2⟩ : ∃ g2, g2 = w.heap.size + 1 := ⟨_, rfl⟩
    rw [← hg2] at HA2 ⊢
    have HG2 : Hid (w.heap.size ≤ g2) := Lib.hid (by omega)
    obtain ⟨g1, hg1⟩ : ∃ g1, g1 = w.heap.size := ⟨_, rfl⟩
    rw [← hg1] at HA1 ⊢
    have HG1 : Hid (w.heap.size ≤ g1) := Lib.hid (by omega)
    have HN1_2 : Hid (g1 ≠ g2) := Lib.hid (by omega)
    clear hg1 hg2
    have HZ1 : Hid (∀ W, Fr N0 w1 W → Blk W g1 30 #[Value.bool s, Value.int .u64 (h : Int), Value.int .u64 (l : Int)]) := Lib.hid fun W hf => HA1.out.fr hf id
    have HZ2 : Hid (∀ W, Fr N0 w1 W → Blk W g2 30 #[Value.bool s', Value.int .u64 (h' : Int), Value.int .u64 (l' : Int)]) := Lib.hid fun W hf => HA2.out.fr hf id
    have F := Lib.hid (Fr.refl N0 w1)
    obtain ⟨z1_0, z1_1, z1_2⟩ := (HZ1.out _ F.out).c3
    obtain ⟨z2_0, z2_1, z2_2⟩ := (HZ2.out _ F.out).c3
    rcases hc with ⟨rfl, he⟩ | ⟨rfl, rfl, he⟩ | ⟨rfl, rfl, rfl, he⟩ | ⟨rfl, rfl, rfl, rfl, rfl, he⟩ | ⟨rfl, rfl, rfl, rfl, rfl, he⟩ | ⟨rfl, rfl, rfl, rfl, hn, hn', he⟩ | ⟨rfl, rfl, rfl, rfl, rfl, he⟩
    all_goals
      have HE := Lib.hid he
      clear he
      go_wp2_with (first
        | (go_at_call_of 65 l; refine (k29 _).mono ?_; rintro e w2 ⟨rfl, hf⟩; have F := Lib.hid (F.out.trans hf); obtain ⟨z1_0, z1_1, z1_2⟩ := (HZ1.out _ F.out).c3; obtain ⟨z2_0, z2_1, z2_2⟩ := (HZ2.out _ F.out).c3)
        | (go_at_call_of 65 l'; refine (q29 _).mono ?_; rintro e w2 ⟨rfl, hf⟩; have F := Lib.hid (F.out.trans hf); obtain ⟨z1_0, z1_1, z1_2⟩ := (HZ1.out _ F.out).c3; obtain ⟨z2_0, z2_1, z2_2⟩ := (HZ2.out _ F.out).c3))
      go_ret
      exact ⟨retb HE.out.symm, HF1.out.trans F.out⟩
  refine key _ _ _ rfl rfl rfl ?_
  have hd := HDD.out
  unfold ltA
  cases h1 : validA ⟨s, h, l⟩ with
  | false => exact .inl ⟨rfl, by simp⟩
  | true =>
    cases h2 : validA ⟨s', h', l'⟩ with
    | false => exact .inr (.inl ⟨rfl, rfl, by simp⟩)
    | true =>
      by_cases h3 : (⟨s, h, l⟩ : Ad) = ⟨s', h', l'⟩
      · exact .inr (.inr (.inl ⟨rfl, rfl, by rw [hd]; simpa using h3, by simp [h3]⟩))
      · have h3' : d = false := by rw [hd]; exact decide_eq_false h3
        rw [if_neg (by simpa using h3)]
        by_cases h4 : s = s'
        · rw [if_neg (by simpa using h4)]
          by_cases h5 : h = h'
          · rw [if_neg (by simpa using h5)]
            exact .inr (.inr (.inr (.inr (.inr (.inr ⟨rfl, rfl, h3', h4, h5, rfl⟩)))))
          · rw [if_pos (by simpa using h5)]
            exact .inr (.inr (.inr (.inr (.inr (.inl ⟨rfl, rfl, h3', h4, h5, by omega, rfl⟩)))))
        · rw [if_pos (by simpa using h4)]
          cases s <;> cases s'
          · exact absurd rfl h4
          · exact .inr (.inr (.inr (.inr (.inl ⟨rfl, rfl, h3', rfl, rfl, rfl⟩))))
          · exact .inr (.inr (.inr (.inl ⟨rfl, rfl, h3', rfl, rfl, rfl⟩)))
          · exact absurd rfl h4
set_option maxHeartbeats 1600000 in
set_option maxRecDepth 100000 in
theorem les_ (p q : Px) (hp : p.ok) (hq : q.ok) : Calls Tryz.prog 38 #[pxV p, pxV q] w fun e w' => e = .returned (.bool (ltP p q)) ∧ Fr N0 w w' := by
  obtain ⟨⟨s, h, l⟩, m⟩ := p
  obtain ⟨⟨s', h', l'⟩, m'⟩ := q
  have c14 : ∀ (w : World) {b : Bool}, validP ⟨⟨s, h, l⟩, m⟩ = b → Calls Tryz.prog 58 #[.agg #[.bool s, .int .u64 (h : Int), .int .u64 (l : Int), .int .i64 m]] w fun e w' => e = .returned (.bool b) ∧ Fr N0 w w' := fun w b hb => hb ▸ val_ (w := w) ⟨⟨s, h, l⟩, m⟩ hp
  have d14 : ∀ (w : World) {b : Bool}, validP ⟨⟨s', h', l'⟩, m'⟩ = b → Calls Tryz.prog 58 #[.agg #[.bool s', .int .u64 (h' : Int), .int .u64 (l' : Int), .int .i64 m']] w fun e w' => e = .returned (.bool b) ∧ Fr N0 w w' := fun w b hb => hb ▸ val_ (w := w) ⟨⟨s', h', l'⟩, m'⟩ hq
  have c44 : ∀ (w : World) {b : Bool}, ltA ⟨s, h, l⟩ ⟨s', h', l'⟩ = b → Calls Tryz.prog 59 #[.agg #[.bool s, .int .u64 (h : Int), .int .u64 (l : Int)], .agg #[.bool s', .int .u64 (h' : Int), .int .u64 (l' : Int)]] w fun e w' => e = .returned (.bool b) ∧ Fr N0 w w' := fun w b hb => hb ▸ ales_ (w := w) ⟨s, h, l⟩ ⟨s', h', l'⟩ hp.ad hq.ad
  obtain ⟨d, hdd⟩ : ∃ d, d = decide ((⟨s, h, l⟩ : Ad) = ⟨s', h', l'⟩) := ⟨_, rfl⟩
  have HDD := Lib.hid hdd
  have E : ∀ W, Sem.run Tryz.prog (binOp .eql 30 (.agg #[.bool s, .int .u64 (h : Int), .int .u64 (l : Int)]) (.agg #[.bool s', .int .u64 (h' : Int), .int .u64 (l' : Int)])) W = .ok (.bool d) W := fun W => by rw [hdd]; exact ad_eql_lit W
  have EG : ∀ X Y W, Sem.run Tryz.prog (eqGuard .eql 30 X Y (.agg #[.bool s, .int .u64 (h : Int), .int .u64 (l : Int)]) (.agg #[.bool s', .int .u64 (h' : Int), .int .u64 (l' : Int)])) W = .ok () W := fun X Y W => ad_guard_lit X Y W
  clear hdd
  have key : ∀ b b' c r, validP ⟨⟨s, h, l⟩, m⟩ = b → validP ⟨⟨s', h', l'⟩, m'⟩ = b' → ltA ⟨s, h, l⟩ ⟨s', h', l'⟩ = c → ltP ⟨⟨s, h, l⟩, m⟩ ⟨⟨s', h', l'⟩, m'⟩ = r → ((b = false ∧ r = false) ∨ (b = true ∧ b' = false ∧ r = false) ∨ (b = true ∧ b' = true ∧ c = true ∧ r = true)
      ∨ (b = true ∧ b' = true ∧ c = false ∧ d = false ∧ r = false) ∨ (b = true ∧ b' = true ∧ c = false ∧ d = true ∧ r = decide (m < m'))) →
      Calls Tryz.prog 38 #[pxV ⟨⟨s, h, l⟩, m⟩, pxV ⟨⟨s', h', l'⟩, m'⟩] w fun e w' => e = .returned (.bool r) ∧ Fr N0 w w' := by
    rintro b b' c r e1 e2 e3 er hc
    have k14 := fun w => c14 w e1
    have q14 := fun w => d14 w e2
    have k44 := fun w => c44 w e3
    clear c14 d14 c44 e1 e2 e3 er
    go_enter Tryz.func38, Tryz.ntmps38
    unfold pxV
    go_wp2_with fail
    have HA1 := Lib.hid ((Blk.new w 32 #[Value.bool s, Value.int .u64 (h : Int), Value.int .u64 (l : Int), Value.int .i64 m]).alloc (.cells #[Value.bool s', Value.int .u64 (h' : Int), Value.int .u64 (l' : Int), Value.int .i64 m'] 32))
    have HA2 := Lib.hid (Blk.alloc2 w (.cells #[Value.bool s, Value.int .u64 (h : Int), Value.int .u64 (l : Int), Value.int .i64 m] 32) 32 #[Value.bool s', Value.int .u64 (h' : Int), Value.int .u64 (l' : Int), Value.int .i64 m'])
    have HF1 := Lib.hid (Fr.alloc (Fr.alloc (Fr.refl N0 w) (.cells #[Value.bool s, Value.int .u64 (h : Int), Value.int .u64 (l : Int), Value.int .i64 m] 32)) (.cells #[Value.bool s', Value.int .u64 (h' : Int), Value.int .u64 (l' : Int), Value.int .i64 m'] 32))
    generalize World.alloc (w.alloc _) _ = w1 at *
    obtain ⟨g2, hg2⟩ : ∃ g2, g2 = w.heap.size + 1 := ⟨_, rfl⟩
    rw [← hg2] at HA2 ⊢
    have HG2 : Hid (w.heap.size ≤ g2) := Lib.hid (by omega)
    obtain ⟨g1, hg1⟩ : ∃ g1, g1 = w.heap.size := ⟨_, rfl⟩
    rw [← hg1] at HA1 ⊢
    have HG1 : Hid (w.heap.size ≤ g1) := Lib.hid (by omega)
    have HN1_2 : Hid (g1 ≠ g2) := Lib.hid (by omega)
    clear hg1 hg2
    have HZ1 : Hid (∀ W, Fr N0 w1 W → Blk W g1 32 #[Value.bool s, Value.int .u64 (h : Int), Value.int .u64 (l : Int), Value.int .i64 m]) := Lib.hid fun W hf => HA1.out.fr hf id
    have HZ2 : Hid (∀ W, Fr N0 w1 W → Blk W g2 32 #[Value.bool s', Value.int .u64 (h' : Int), Value.int .u64 (l' : Int), Value.int .i64 m']) := Lib.hid fun W hf => HA2.out.fr hf id
    have F := Lib.hid (Fr.refl N0 w1)
    obtain ⟨z1_0, z1_1, z1_2, z1_3⟩ := (HZ1.out _ F.out).c4
    obtain ⟨z2_0, z2_1, z2_2, z2_3⟩ := (HZ2.out _ F.out).c4
    rcases hc with ⟨rfl, he⟩ | ⟨rfl, rfl, he⟩ | ⟨rfl, rfl, rfl, he⟩ | ⟨rfl, rfl, rfl, rfl, he⟩ | ⟨rfl, rfl, rfl, rfl, he⟩
    all_goals
      have HE := Lib.hid he
      clear he
      go_wp2_with (first
        | (go_at_call_of 58 l; refine (k14 _).mono ?_; rintro e w2 ⟨rfl, hf⟩; have F := Lib.hid (F.out.trans hf); obtain ⟨z1_0, z1_1, z1_2, z1_3⟩ := (HZ1.out _ F.out).c4; obtain ⟨z2_0, z2_1, z2_2, z2_3⟩ := (HZ2.out _ F.out).c4)
        | (go_at_call_of 58 l'; refine (q14 _).mono ?_; rintro e w2 ⟨rfl, hf⟩; have F := Lib.hid (F.out.trans hf); obtain ⟨z1_0, z1_1, z1_2, z1_3⟩ := (HZ1.out _ F.out).c4; obtain ⟨z2_0, z2_1, z2_2, z2_3⟩ := (HZ2.out _ F.out).c4)
        | (go_at_call 59; refine (k44 _).mono ?_; rintro e w2 ⟨rfl, hf⟩; have F := Lib.hid (F.out.trans hf); obtain ⟨z1_0, z1_1, z1_2, z1_3⟩ := (HZ1.out _ F.out).c4; obtain ⟨z2_0, z2_1, z2_2, z2_3⟩ := (HZ2.out _ F.out).c4))
      go_ret
      exact ⟨retb HE.out.symm, HF1.out.trans F.out⟩
  refine key _ _ _ _ rfl rfl rfl rfl ?_
  have hd := HDD.out
  unfold ltP
  cases h1 : validP ⟨⟨s, h, l⟩, m⟩ with
  | false => exact .inl ⟨rfl, by simp⟩
  | true =>
    cases h2 : validP ⟨⟨s', h', l'⟩, m'⟩ with
    | false => exact .inr (.inl ⟨rfl, rfl, by simp⟩)
    | true =>
      cases h3 : ltA ⟨s, h, l⟩ ⟨s', h', l'⟩ with
      | true => exact .inr (.inr (.inl ⟨rfl, rfl, rfl, by simp⟩))
      | false =>
        cases hdc : d with
        | false =>
          have h4 : ¬ ((⟨s, h, l⟩ : Ad) = ⟨s', h', l'⟩) := of_decide_eq_false (hd.symm.trans hdc)
          exact .inr (.inr (.inr (.inl ⟨rfl, rfl, rfl, rfl, by rw [decide_eq_false h4]; simp⟩)))
        | true =>
          have h4 : (⟨s, h, l⟩ : Ad) = ⟨s', h', l'⟩ := of_decide_eq_true (hd.symm.trans hdc)
          exact .inr (.inr (.inr (.inr ⟨rfl, rfl, rfl, rfl, by simp [h4]⟩)))
end
end Go.Proofs.YtnklbeigikcfkaaGreatDoor
