/- The document's Common, Holds, Covers. -/
import Derived.Test.YtndjijadalkidaaDoorRq
import Derived.Test.YtndjijadalkidaaDoorCm
namespace Go.Proofs.YtndjijadalkidaaDoor
open Go.RowKit
theorem cm_ex {a b : Ad} (ha : a.ok) (hb : b.ok) : ∃ r, CmR a b r := by
  by_cases hc : validA a = true ∧ validA b = true ∧ a.six = b.six
  · obtain ⟨va, vb, hs⟩ := hc
    have hw : widthA b = widthA a := by unfold widthA; rw [hs]
    have key : ∀ k, k ≤ widthA a → (∃ n, CmnIs a b n) ∨ num a / 2 ^ (widthA a - k) = num b / 2 ^ (widthA a - k) := by
      intro k
      induction k with
      | zero =>
        intro _
        right
        have h1 := num_lt ha va
        have h2 := num_lt hb vb
        rw [hw] at h2
        rw [Nat.sub_zero, Nat.div_eq_of_lt h1, Nat.div_eq_of_lt h2]
      | succ k ih =>
        intro hk
        rcases ih (by omega) with h | h
        · exact .inl h
        · by_cases e : num a / 2 ^ (widthA a - 1 - k) % 2 = num b / 2 ^ (widthA a - 1 - k) % 2
          · exact .inr (CmnIs.step (by omega) h e)
          · exact .inl ⟨k, by omega, h, .inr e⟩
    rcases key _ (Nat.le_refl _) with ⟨n, h⟩ | h
    · exact ⟨n, by unfold CmR; rw [if_pos ⟨va, vb, hs⟩]; exact ⟨n, rfl, h⟩⟩
    · exact ⟨widthA a, by unfold CmR; rw [if_pos ⟨va, vb, hs⟩]; exact ⟨widthA a, rfl, Nat.le_refl _, h, .inl rfl⟩⟩
  · exact ⟨-1, by unfold CmR; rw [if_neg hc]⟩
section
variable {w : World}
set_option maxHeartbeats 1600000 in
set_option maxRecDepth 100000 in
theorem rcom (a b : Ad) (ha : a.ok) (hb : b.ok) : Calls Tryd.prog 21 #[adV a, adV b] w fun e w' => ∃ r, e = .returned (.int .i64 r) ∧ CmR a b r ∧ Fr N0 w w' := by
  have ka := fun (w : World) (i : Int) (h1 : -9223372036854775808 ≤ i) (h2 : i ≤ 9223372036854775807) => rbit (w := w) a ha i h1 h2
  have kb := fun (w : World) (i : Int) (h1 : -9223372036854775808 ≤ i) (h2 : i ≤ 9223372036854775807) => rbit (w := w) b hb i h1 h2
  have hbn1 := Lib.hid fun (va : validA a = true) (i : Nat) (hi : i < widthA a) => bit_num ha va hi
  have hbn2 := Lib.hid fun (vb : validA b = true) (i : Nat) (hi : i < widthA b) => bit_num hb vb hi
  have hnl1 := Lib.hid fun (va : validA a = true) => num_lt ha va
  have hnl2 := Lib.hid fun (vb : validA b = true) => num_lt hb vb
  obtain ⟨s, h, l⟩ := a
  obtain ⟨s', h', l'⟩ := b
  clear ha hb
  have c29 : ∀ (w : World) {b : Bool}, validA ⟨s, h, l⟩ = b → Calls Tryd.prog 32 #[.agg #[.bool s, .int .u64 (h : Int), .int .u64 (l : Int)]] w fun e w' => e = .returned (.bool b) ∧ Fr N0 w w' := fun w b hb => hb ▸ rval (w := w) ⟨s, h, l⟩
  have d29 : ∀ (w : World) {b : Bool}, validA ⟨s', h', l'⟩ = b → Calls Tryd.prog 32 #[.agg #[.bool s', .int .u64 (h' : Int), .int .u64 (l' : Int)]] w fun e w' => e = .returned (.bool b) ∧ Fr N0 w w' := fun w b hb => hb ▸ rval (w := w) ⟨s', h', l'⟩
  have key : ∀ b b', validA ⟨s, h, l⟩ = b → validA ⟨s', h', l'⟩ = b' → ((b = false ∧ CmR ⟨s, h, l⟩ ⟨s', h', l'⟩ (-1)) ∨ (b = true ∧ b' = false ∧ CmR ⟨s, h, l⟩ ⟨s', h', l'⟩ (-1)) ∨ (b = true ∧ b' = true ∧ decide (s = s') = false ∧ (s == s') = false ∧ (s != s') = true ∧ CmR ⟨s, h, l⟩ ⟨s', h', l'⟩ (-1))) →
      Calls Tryd.prog 21 #[adV ⟨s, h, l⟩, adV ⟨s', h', l'⟩] w fun e w' => ∃ r, e = .returned (.int .i64 r) ∧ CmR ⟨s, h, l⟩ ⟨s', h', l'⟩ r ∧ Fr N0 w w' := by
    rintro b b' e1 e2 hc
    have k29 := fun w => c29 w e1
    have q29 := fun w => d29 w e2
    clear c29 d29 e1 e2 ka kb
    go_enter Tryd.func21, Tryd.ntmps21
    unfold adV
    go_wp2_with fail
    have HA1 := Lib.hid ((Blk.new w 24 #[Value.bool s, Value.int .u64 (h : Int), Value.int .u64 (l : Int)]).alloc (.cells #[Value.bool s', Value.int .u64 (h' : Int), Value.int .u64 (l' : Int)] 24))
    have HA2 := Lib.hid (Blk.alloc2 w (.cells #[Value.bool s, Value.int .u64 (h : Int), Value.int .u64 (l : Int)] 24) 24 #[Value.bool s', Value.int .u64 (h' : Int), Value.int .u64 (l' : Int)])
    have HF1 := Lib.hid (Fr.alloc (Fr.alloc (Fr.refl N0 w) (.cells #[Value.bool s, Value.int .u64 (h : Int), Value.int .u64 (l : Int)] 24)) (.cells #[Value.bool s', Value.int .u64 (h' : Int), Value.int .u64 (l' : Int)] 24))
    generalize World.alloc (w.alloc _) _ = w1 at *
    obtain ⟨g2, hg2⟩ : ∃ g2, g2 = w.heap.size + 1 := ⟨_, rfl⟩
    rw [← hg2] at HA2 ⊢
    have HG2 : Hid (w.heap.size ≤ g2) := Lib.hid (by omega)
    obtain ⟨g1, hg1⟩ : ∃ g1, g1 = w.heap.size := ⟨_, rfl⟩
    rw [← hg1] at HA1 ⊢
    have HG1 : Hid (w.heap.size ≤ g1) := Lib.hid (by omega)
    have HN1_2 : Hid (g1 ≠ g2) := Lib.hid (by omega)
    clear hg1 hg2
    have HZ1 : Hid (∀ W, Fr N0 w1 W → Blk W g1 24 #[Value.bool s, Value.int .u64 (h : Int), Value.int .u64 (l : Int)]) := Lib.hid fun W hf => HA1.out.fr hf id
    have HZ2 : Hid (∀ W, Fr N0 w1 W → Blk W g2 24 #[Value.bool s', Value.int .u64 (h' : Int), Value.int .u64 (l' : Int)]) := Lib.hid fun W hf => HA2.out.fr hf id
    have F := Lib.hid (Fr.refl N0 w1)
    obtain ⟨z1_0, z1_1, z1_2⟩ := (HZ1.out _ F.out).c3
    obtain ⟨z2_0, z2_1, z2_2⟩ := (HZ2.out _ F.out).c3
    rcases hc with ⟨rfl, he⟩ | ⟨rfl, rfl, he⟩ | ⟨rfl, rfl, hd, hd', hd2, he⟩
    all_goals
      have HE := Lib.hid he
      clear he
      go_wp2_with (first
        | (go_at_call_of 32 l; refine (k29 _).mono ?_; rintro e w2 ⟨rfl, hf⟩; have F := Lib.hid (F.out.trans hf); obtain ⟨z1_0, z1_1, z1_2⟩ := (HZ1.out _ F.out).c3; obtain ⟨z2_0, z2_1, z2_2⟩ := (HZ2.out _ F.out).c3)
        | (go_at_call_of 32 l'; refine (q29 _).mono ?_; rintro e w2 ⟨rfl, hf⟩; have F := Lib.hid (F.out.trans hf); obtain ⟨z1_0, z1_1, z1_2⟩ := (HZ1.out _ F.out).c3; obtain ⟨z2_0, z2_1, z2_2⟩ := (HZ2.out _ F.out).c3))
      go_ret
      exact ⟨_, rfl, HE.out, HF1.out.trans F.out⟩
  by_cases hgood : validA ⟨s, h, l⟩ = true ∧ validA ⟨s', h', l'⟩ = true ∧ s = s'
  · obtain ⟨va, vb, rfl⟩ := hgood
    clear key
    have k29 := fun w => c29 w va
    have q29 := fun w => d29 w vb
    obtain ⟨wi, hwi⟩ : ∃ wi, wi = widthA ⟨s, h, l⟩ := ⟨_, rfl⟩
    have hwi2 : wi = widthA ⟨s, h', l'⟩ := hwi
    have k33 : ∀ w : World, Calls Tryd.prog 33 #[.agg #[.bool s, .int .u64 (h : Int), .int .u64 (l : Int)]] w fun e w' => e = .returned (.int .i64 (wi : Int)) ∧ Fr N0 w w' := fun w => by rw [hwi]; exact rwid (w := w) ⟨s, h, l⟩
    have hw128 : wi ≤ 128 := by rw [hwi]; unfold widthA; split <;> omega
    have N1 := hnl1.out va
    have N2 := hnl2.out vb
    have B1 := Lib.hid (hbn1.out va)
    have B2 := Lib.hid (hbn2.out vb)
    have HZ0 := Lib.hid (show num ⟨s, h, l⟩ / 2 ^ (wi - 0) = num ⟨s, h', l'⟩ / 2 ^ (wi - 0) by
      rw [Nat.sub_zero, hwi, Nat.div_eq_of_lt N1, ← hwi, hwi2, Nat.div_eq_of_lt N2])
    have HW := Lib.hid hwi
    have HW2 := Lib.hid hwi2
    have HV := Lib.hid fun (n : Nat) (hc : CmnIs ⟨s, h, l⟩ ⟨s, h', l'⟩ n) => (show CmR ⟨s, h, l⟩ ⟨s, h', l'⟩ (n : Int) by unfold CmR; rw [if_pos ⟨va, vb, rfl⟩]; exact ⟨n, rfl, hc⟩)
    clear c29 d29 va vb hwi hwi2 N1 N2 hbn1 hbn2 hnl1 hnl2
    go_enter Tryd.func21, Tryd.ntmps21
    unfold adV at *
    go_wp2_with fail
    have HA1 := Lib.hid ((Blk.new w 24 #[Value.bool s, Value.int .u64 (h : Int), Value.int .u64 (l : Int)]).alloc (.cells #[Value.bool s, Value.int .u64 (h' : Int), Value.int .u64 (l' : Int)] 24))
    have HA2 := Lib.hid (Blk.alloc2 w (.cells #[Value.bool s, Value.int .u64 (h : Int), Value.int .u64 (l : Int)] 24) 24 #[Value.bool s, Value.int .u64 (h' : Int), Value.int .u64 (l' : Int)])
    have HF1 := Lib.hid (Fr.alloc (Fr.alloc (Fr.refl N0 w) (.cells #[Value.bool s, Value.int .u64 (h : Int), Value.int .u64 (l : Int)] 24)) (.cells #[Value.bool s, Value.int .u64 (h' : Int), Value.int .u64 (l' : Int)] 24))
    generalize World.alloc (w.alloc _) _ = w1 at *
    obtain ⟨g2, hg2⟩ : ∃ g2, g2 = w.heap.size + 1 := ⟨_, rfl⟩
    rw [← hg2] at HA2 ⊢
    have HG2 : Hid (w.heap.size ≤ g2) := Lib.hid (by omega)
    obtain ⟨g1, hg1⟩ : ∃ g1, g1 = w.heap.size := ⟨_, rfl⟩
    rw [← hg1] at HA1 ⊢
    have HG1 : Hid (w.heap.size ≤ g1) := Lib.hid (by omega)
    have HN1_2 : Hid (g1 ≠ g2) := Lib.hid (by omega)
    clear hg1 hg2
    have HZ1 : Hid (∀ W, Fr N0 w1 W → Blk W g1 24 #[Value.bool s, Value.int .u64 (h : Int), Value.int .u64 (l : Int)]) := Lib.hid fun W hf => HA1.out.fr hf id
    have HZ2 : Hid (∀ W, Fr N0 w1 W → Blk W g2 24 #[Value.bool s, Value.int .u64 (h' : Int), Value.int .u64 (l' : Int)]) := Lib.hid fun W hf => HA2.out.fr hf id
    have F := Lib.hid (Fr.refl N0 w1)
    obtain ⟨z1_0, z1_1, z1_2⟩ := (HZ1.out _ F.out).c3
    obtain ⟨z2_0, z2_1, z2_2⟩ := (HZ2.out _ F.out).c3
    go_wp2_with (first
      | (go_at_call_of 32 l; refine (k29 _).mono ?_; rintro e w2 ⟨rfl, hf⟩; have F := Lib.hid (F.out.trans hf); obtain ⟨z1_0, z1_1, z1_2⟩ := (HZ1.out _ F.out).c3; obtain ⟨z2_0, z2_1, z2_2⟩ := (HZ2.out _ F.out).c3)
      | (go_at_call_of 32 l'; refine (q29 _).mono ?_; rintro e w3 ⟨rfl, hf⟩; have F := Lib.hid (F.out.trans hf); obtain ⟨z1_0, z1_1, z1_2⟩ := (HZ1.out _ F.out).c3; obtain ⟨z2_0, z2_1, z2_2⟩ := (HZ2.out _ F.out).c3))
    clear z1_0 z1_1 z1_2 z2_0 z2_1 z2_2 k29 q29 hf
    have F3 := F
    go_loopw [7] (fun i wr => ∃ n : Nat, n ≤ wi ∧ i = .int .i64 (n : Int) ∧ num ⟨s, h, l⟩ / 2 ^ (wi - n) = num ⟨s, h', l'⟩ / 2 ^ (wi - n) ∧ Fr N0 w1 wr) (fun i _ => wi + 1 - (RowKit.intOf i).toNat)
    case atStart => exact ⟨0, Nat.zero_le _, rfl, HZ0.out, F3.out⟩
    case round =>
      obtain ⟨n, hn, rfl, hq, hF⟩ := hrel
      have HQ := Lib.hid hq
      have G := Lib.hid hF
      clear hq hF
      have u0 := fun x : Fam wr => (HZ1.out x.w (G.out.trans x.fr)).c3.1
      have u1 := fun x : Fam wr => (HZ1.out x.w (G.out.trans x.fr)).c3.2.1
      have u2 := fun x : Fam wr => (HZ1.out x.w (G.out.trans x.fr)).c3.2.2
      have v0 := fun x : Fam wr => (HZ2.out x.w (G.out.trans x.fr)).c3.1
      have v1 := fun x : Fam wr => (HZ2.out x.w (G.out.trans x.fr)).c3.2.1
      have v2 := fun x : Fam wr => (HZ2.out x.w (G.out.trans x.fr)).c3.2.2
      have qa := fun w => ka w (n : Int) (by omega) (by omega)
      have qb := fun w => kb w (n : Int) (by omega) (by omega)
      clear ka kb
      by_cases hnw : n < wi
      · have E1 := B1.out n (by rw [← HW.out]; exact hnw)
        have E2 := B2.out n (by rw [← HW2.out]; exact hnw)
        rw [← HW.out] at E1
        rw [← HW2.out] at E2
        generalize bitA ⟨s, h, l⟩ (n : Int) = x at *
        generalize bitA ⟨s, h', l'⟩ (n : Int) = y at *
        have HE1 := Lib.hid E1
        have HE2 := Lib.hid E2
        clear E1 E2
        have key : ∀ b : Bool, decide (x = y) = b → (x == y) = b → decide ((x : Int) = (y : Int)) = b → ((x : Int) == (y : Int)) = b → (b = true ∨ b = false) := fun b _ _ _ _ => by cases b <;> simp
        by_cases hxy : x = y
        · subst hxy
          have HST := Lib.hid (CmnIs.step (a := ⟨s, h, l⟩) (b := ⟨s, h', l'⟩) (n := n) (by rw [← HW.out]; exact hnw) (by rw [← HW.out]; exact HQ.out) (by rw [← HW.out, ← HE1.out, ← HE2.out]))
          rw [← HW.out] at HST
          go_wp2_with fail
          refine wp_region_fam (by kernel_rfl) (by kernel_rfl) ?_
          repeat (go_big_quiet_step ((first
            | (go_at_call 33; exact fam_call (k33 _))
            | (go_at_call_of 13 l; exact fam_call (qa _))
            | (go_at_call_of 13 l'; exact fam_call (qb _)))))
          first | refine wpQuiet_nil ?_ | (go_big_quiet_want; go_big_quiet_op; done)
          rintro _ ⟨xq, rfl⟩
          go_wp2_with fail
          go_roundw
          case rel => exact ⟨n + 1, by omega, by go_num, HST.out, G.out.trans xq.fr⟩
          case measure => simp [RowKit.intOf]; omega
        · have d1 : decide (x = y) = false := decide_eq_false hxy
          have d2 : decide ((x : Int) = (y : Int)) = false := decide_eq_false (by omega)
          have d3 : ((x : Int) == (y : Int)) = false := by simp; omega
          have HXY := Lib.hid hxy
          clear hxy
          go_wp2_with fail
          refine wp_region_fam (by kernel_rfl) (by kernel_rfl) ?_
          repeat (go_big_quiet_step ((first
            | (go_at_call 33; exact fam_call (k33 _))
            | (go_at_call_of 13 l; exact fam_call (qa _))
            | (go_at_call_of 13 l'; exact fam_call (qb _)))))
          first | refine wpQuiet_nil ?_ | (go_big_quiet_want; go_big_quiet_op; done)
          rintro _ ⟨xq, rfl⟩
          go_wp2_with fail
          go_ret
          refine ⟨_, rfl, ?_, HF1.out.trans (G.out.trans xq.fr)⟩
          exact HV.out n ⟨by rw [← HW.out]; omega, by rw [← HW.out]; exact HQ.out, .inr (by rw [← HW.out, ← HE1.out, ← HE2.out]; exact HXY.out)⟩
      · obtain rfl : n = wi := by omega
        go_wp2_with fail
        refine wp_region_fam (by kernel_rfl) (by kernel_rfl) ?_
        repeat (go_big_quiet_step ((first
          | (go_at_call 33; exact fam_call (k33 _)))))
        first | refine wpQuiet_nil ?_ | (go_big_quiet_want; go_big_quiet_op; done)
        rintro _ ⟨xq, rfl⟩
        go_wp2_with fail
        go_ret
        refine ⟨_, rfl, ?_, HF1.out.trans (G.out.trans xq.fr)⟩
        exact HV.out n ⟨by rw [← HW.out]; omega, by rw [← HW.out]; exact HQ.out, .inl HW.out⟩
  · refine key _ _ rfl rfl ?_
    unfold CmR
    have hne : ¬ (validA ⟨s, h, l⟩ = true ∧ validA ⟨s', h', l'⟩ = true ∧ (⟨s, h, l⟩ : Ad).six = (⟨s', h', l'⟩ : Ad).six) := hgood
    rw [if_neg hne]
    cases h1 : validA ⟨s, h, l⟩ with
    | false => exact .inl ⟨rfl, rfl⟩
    | true =>
      cases h2 : validA ⟨s', h', l'⟩ with
      | false => exact .inr (.inl ⟨rfl, rfl, rfl⟩)
      | true =>
        have h3 : s ≠ s' := fun e => hgood ⟨h1, h2, e⟩
        exact .inr (.inr ⟨rfl, rfl, by simpa using h3, by simpa using h3, by simpa using h3, rfl⟩)
end
end Go.Proofs.YtndjijadalkidaaDoor
