/- The document's Holds, Covers. -/
import Derived.Test.YtndjijadalkidaaDoorRm
import Derived.Test.YtndjijadalkidaaDoorCo
namespace Go.Proofs.YtndjijadalkidaaDoor
open Go.RowKit
theorem holds_r {p : Px} {a : Ad} (hp : p.ad.ok) (ha : a.ok) {r : Int} (hr : CmR p.ad a r) (hv : validP p = true) : holdsP p a = decide (p.bits ≤ r) := by
  obtain ⟨k1, k2, k3, k4⟩ := (validP_iff hp).1 hv
  unfold CmR at hr
  by_cases hc : validA p.ad = true ∧ validA a = true ∧ p.ad.six = a.six
  · rw [if_pos hc] at hr
    obtain ⟨n, rfl, hn⟩ := hr
    exact holds_cmn hp ha hv hc.2.1 hc.2.2 hn
  · rw [if_neg hc] at hr
    subst hr
    rw [decide_eq_false (by omega)]
    unfold holdsP
    cases h2 : validA a with
    | false => simp
    | true =>
      have h3 : ¬ p.ad.six = a.six := fun h => hc ⟨k1, h2, h⟩
      simp [h3]
section
variable {w : World}
set_option maxHeartbeats 1600000 in
set_option maxRecDepth 100000 in
theorem rhol (p : Px) (a : Ad) (hp : p.ok) (ha : a.ok) : Calls Tryd.prog 17 #[pxV p, adV a] w fun e w' => e = .returned (.bool (holdsP p a)) ∧ Fr N0 w w' := by
  obtain ⟨r, hr⟩ := cm_ex hp.ad ha
  have HR := Lib.hid fun hv => holds_r hp.ad ha hr hv
  have kc : ∀ w : World, Calls Tryd.prog 21 #[adV p.ad, adV a] w fun e w' => e = .returned (.int .i64 r) ∧ Fr N0 w w' := fun w =>
    (rcom (w := w) p.ad a hp.ad ha).mono fun e w' ⟨q, he, hq, hf⟩ => ⟨by rw [he, hq.eq hr], hf⟩
  have kv := fun w => rvalP (w := w) p hp
  obtain ⟨v, hv⟩ : ∃ v, v = validP p := ⟨_, rfl⟩
  rw [← hv] at kv
  have HV := Lib.hid hv
  clear hv hr ha hp
  have key : ∀ res, holdsP p a = res → ((v = false ∧ res = false) ∨ (v = true ∧ res = decide (p.bits ≤ r))) → Calls Tryd.prog 17 #[pxV p, adV a] w fun e w' => e = .returned (.bool res) ∧ Fr N0 w w' := by
    intro res _ hc
    obtain ⟨⟨s, h, l⟩, m⟩ := p
    obtain ⟨s', h', l'⟩ := a
    unfold pxV adV at *
    simp only at kc kv hc
    go_enter Tryd.func17, Tryd.ntmps17
    go_wp2_with fail
    have HA1 := Lib.hid ((Blk.new w 26 #[Value.bool s, Value.int .u64 (h : Int), Value.int .u64 (l : Int), Value.int .i64 m]).alloc (.cells #[Value.bool s', Value.int .u64 (h' : Int), Value.int .u64 (l' : Int)] 24))
    have HA2 := Lib.hid (Blk.alloc2 w (.cells #[Value.bool s, Value.int .u64 (h : Int), Value.int .u64 (l : Int), Value.int .i64 m] 26) 24 #[Value.bool s', Value.int .u64 (h' : Int), Value.int .u64 (l' : Int)])
    have HF1 := Lib.hid (Fr.alloc (Fr.alloc (Fr.refl N0 w) (.cells #[Value.bool s, Value.int .u64 (h : Int), Value.int .u64 (l : Int), Value.int .i64 m] 26)) (.cells #[Value.bool s', Value.int .u64 (h' : Int), Value.int .u64 (l' : Int)] 24))
    generalize World.alloc (w.alloc _) _ = w1 at *
    obtain ⟨g2, hg2⟩ : ∃ g2, g2 = w.heap.size + 1 := ⟨_, rfl⟩
    rw [← hg2] at HA2 ⊢
    have HG2 : Hid (w.heap.size ≤ g2) := Lib.hid (by omega)
    obtain ⟨g1, hg1⟩ : ∃ g1, g1 = w.heap.size := ⟨_, rfl⟩
    rw [← hg1] at HA1 ⊢
    have HG1 : Hid (w.heap.size ≤ g1) := Lib.hid (by omega)
    have HN1_2 : Hid (g1 ≠ g2) := Lib.hid (by omega)
    clear hg1 hg2
    have HZ1 : Hid (∀ W, Fr N0 w1 W → Blk W g1 26 #[Value.bool s, Value.int .u64 (h : Int), Value.int .u64 (l : Int), Value.int .i64 m]) := Lib.hid fun W hf => HA1.out.fr hf id
    have HZ2 : Hid (∀ W, Fr N0 w1 W → Blk W g2 24 #[Value.bool s', Value.int .u64 (h' : Int), Value.int .u64 (l' : Int)]) := Lib.hid fun W hf => HA2.out.fr hf id
    have F := Lib.hid (Fr.refl N0 w1)
    obtain ⟨z1_0, z1_1, z1_2, z1_3⟩ := (HZ1.out _ F.out).c4
    obtain ⟨z2_0, z2_1, z2_2⟩ := (HZ2.out _ F.out).c3
    go_wp2_with (go_at_call 15; refine (kv _).mono ?_; rintro e w2 ⟨rfl, hf⟩; have F := Lib.hid (F.out.trans hf); obtain ⟨z1_0, z1_1, z1_2, z1_3⟩ := (HZ1.out _ F.out).c4; obtain ⟨z2_0, z2_1, z2_2⟩ := (HZ2.out _ F.out).c3)
    have u0 := fun x : Fam w2 => (HZ1.out x.w (F.out.trans x.fr)).c4.1
    have u1 := fun x : Fam w2 => (HZ1.out x.w (F.out.trans x.fr)).c4.2.1
    have u2 := fun x : Fam w2 => (HZ1.out x.w (F.out.trans x.fr)).c4.2.2.1
    have u3 := fun x : Fam w2 => (HZ1.out x.w (F.out.trans x.fr)).c4.2.2.2
    have v0 := fun x : Fam w2 => (HZ2.out x.w (F.out.trans x.fr)).c3.1
    have v1 := fun x : Fam w2 => (HZ2.out x.w (F.out.trans x.fr)).c3.2.1
    have v2 := fun x : Fam w2 => (HZ2.out x.w (F.out.trans x.fr)).c3.2.2
    clear z1_0 z1_1 z1_2 z1_3 z2_0 z2_1 z2_2 hf kv
    rcases hc with ⟨rfl, he⟩ | ⟨rfl, he⟩
    all_goals
      have HE := Lib.hid he
      clear he
      refine wp_region_fam (by kernel_rfl) (by kernel_rfl) ?_
      repeat (go_big_quiet_step ((go_at_call 21; exact fam_call (kc _))))
      first | refine wpQuiet_nil ?_ | (go_big_quiet_want; go_big_quiet_op; done)
      rintro _ ⟨xq, rfl⟩
      go_wp2_with fail
      go_ret
      exact ⟨retb HE.out.symm, HF1.out.trans (F.out.trans xq.fr)⟩
  refine key _ rfl ?_
  cases hv : v with
  | false => exact .inl ⟨rfl, by have := HV.out; rw [hv] at this; unfold holdsP; rw [← this]; rfl⟩
  | true => exact .inr ⟨rfl, HR.out (by rw [← HV.out]; exact hv)⟩
set_option maxHeartbeats 1600000 in
set_option maxRecDepth 100000 in
theorem rcov (p q : Px) (hp : p.ok) (hq : q.ok) : Calls Tryd.prog 19 #[pxV p, pxV q] w fun e w' => e = .returned (.bool (coversP p q)) ∧ Fr N0 w w' := by
  have kc := fun w => rhol (w := w) p q.ad hp hq.ad
  have kv := fun w => rvalP (w := w) q hq
  obtain ⟨v, hv⟩ : ∃ v, v = validP q := ⟨_, rfl⟩
  obtain ⟨c, hc⟩ : ∃ c, c = holdsP p q.ad := ⟨_, rfl⟩
  rw [← hv] at kv
  rw [← hc] at kc
  have key : ∀ res, coversP p q = res → ((v = false ∧ res = false) ∨ (v = true ∧ decide (p.bits ≤ q.bits) = false ∧ res = false) ∨ (v = true ∧ p.bits ≤ q.bits ∧ res = c)) → Calls Tryd.prog 19 #[pxV p, pxV q] w fun e w' => e = .returned (.bool res) ∧ Fr N0 w w' := by
    clear hv hc hp hq
    intro res _ hc
    obtain ⟨⟨s, h, l⟩, m⟩ := p
    obtain ⟨⟨s', h', l'⟩, m'⟩ := q
    unfold pxV adV at *
    simp only at kc kv hc
    go_enter Tryd.func19, Tryd.ntmps19
    go_wp2_with fail
    have HA1 := Lib.hid ((Blk.new w 26 #[Value.bool s, Value.int .u64 (h : Int), Value.int .u64 (l : Int), Value.int .i64 m]).alloc (.cells #[Value.bool s', Value.int .u64 (h' : Int), Value.int .u64 (l' : Int), Value.int .i64 m'] 26))
    have HA2 := Lib.hid (Blk.alloc2 w (.cells #[Value.bool s, Value.int .u64 (h : Int), Value.int .u64 (l : Int), Value.int .i64 m] 26) 26 #[Value.bool s', Value.int .u64 (h' : Int), Value.int .u64 (l' : Int), Value.int .i64 m'])
    have HF1 := Lib.hid (Fr.alloc (Fr.alloc (Fr.refl N0 w) (.cells #[Value.bool s, Value.int .u64 (h : Int), Value.int .u64 (l : Int), Value.int .i64 m] 26)) (.cells #[Value.bool s', Value.int .u64 (h' : Int), Value.int .u64 (l' : Int), Value.int .i64 m'] 26))
    generalize World.alloc (w.alloc _) _ = w1 at *
    obtain ⟨g2, hg2⟩ : ∃ g2, g2 = w.heap.size + 1 := ⟨_, rfl⟩
    rw [← hg2] at HA2 ⊢
    have HG2 : Hid (w.heap.size ≤ g2) := Lib.hid (by omega)
    obtain ⟨g1, hg1⟩ : ∃ g1, g1 = w.heap.size := ⟨_, rfl⟩
    rw [← hg1] at HA1 ⊢
    have HG1 : Hid (w.heap.size ≤ g1) := Lib.hid (by omega)
    have HN1_2 : Hid (g1 ≠ g2) := Lib.hid (by omega)
    clear hg1 hg2
    have HZ1 : Hid (∀ W, Fr N0 w1 W → Blk W g1 26 #[Value.bool s, Value.int .u64 (h : Int), Value.int .u64 (l : Int), Value.int .i64 m]) := Lib.hid fun W hf => HA1.out.fr hf id
    have HZ2 : Hid (∀ W, Fr N0 w1 W → Blk W g2 26 #[Value.bool s', Value.int .u64 (h' : Int), Value.int .u64 (l' : Int), Value.int .i64 m']) := Lib.hid fun W hf => HA2.out.fr hf id
    have F := Lib.hid (Fr.refl N0 w1)
    obtain ⟨z1_0, z1_1, z1_2, z1_3⟩ := (HZ1.out _ F.out).c4
    obtain ⟨z2_0, z2_1, z2_2, z2_3⟩ := (HZ2.out _ F.out).c4
    rcases hc with ⟨rfl, he⟩ | ⟨rfl, hd, he⟩ | ⟨rfl, hd, he⟩
    all_goals
      have HE := Lib.hid he
      clear he
      go_wp2_with (first
        | (go_at_call 15; refine (kv _).mono ?_; rintro e w2 ⟨rfl, hf⟩; have F := Lib.hid (F.out.trans hf); obtain ⟨z1_0, z1_1, z1_2, z1_3⟩ := (HZ1.out _ F.out).c4; obtain ⟨z2_0, z2_1, z2_2, z2_3⟩ := (HZ2.out _ F.out).c4)
        | (go_at_call 17; refine (kc _).mono ?_; rintro e w2 ⟨rfl, hf⟩; have F := Lib.hid (F.out.trans hf); obtain ⟨z1_0, z1_1, z1_2, z1_3⟩ := (HZ1.out _ F.out).c4; obtain ⟨z2_0, z2_1, z2_2, z2_3⟩ := (HZ2.out _ F.out).c4))
      go_ret
      exact ⟨retb HE.out.symm, HF1.out.trans F.out⟩
  refine key _ rfl ?_
  unfold coversP
  rw [← hv, ← hc]
  cases v with
  | false => exact .inl ⟨rfl, rfl⟩
  | true =>
    by_cases h : p.bits ≤ q.bits
    · exact .inr (.inr ⟨rfl, h, by simp [h]⟩)
    · exact .inr (.inl ⟨rfl, decide_eq_false h, by simp [h]⟩)
end
end Go.Proofs.YtndjijadalkidaaDoor
