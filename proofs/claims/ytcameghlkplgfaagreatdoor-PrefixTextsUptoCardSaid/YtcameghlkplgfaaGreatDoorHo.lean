/- prefix.Holds, prefix.Covers. -/
import Derived.Test.YtcameghlkplgfaaGreatDoorOf
namespace Go.Proofs.YtcameghlkplgfaaGreatDoor
open Go.RowKit
theorem ad_eql_lit {s1 s2 : Bool} {h1 h2 l1 l2 : Nat} (W : World) : Sem.run Tryz.prog (binOp .eql 24 (.agg #[.bool s1, .int .u64 (h1 : Int), .int .u64 (l1 : Int)]) (.agg #[.bool s2, .int .u64 (h2 : Int), .int .u64 (l2 : Int)])) W = .ok (.bool (decide ((⟨s1, h1, l1⟩ : Ad) = ⟨s2, h2, l2⟩))) W := eql_ad ⟨s1, h1, l1⟩ ⟨s2, h2, l2⟩ W
theorem ad_guard_lit {s1 s2 : Bool} {h1 h2 l1 l2 : Nat} (X Y : Operand) (W : World) : Sem.run Tryz.prog (eqGuard .eql 24 X Y (.agg #[.bool s1, .int .u64 (h1 : Int), .int .u64 (l1 : Int)]) (.agg #[.bool s2, .int .u64 (h2 : Int), .int .u64 (l2 : Int)])) W = .ok () W := guard_ad .eql X Y ⟨s1, h1, l1⟩ ⟨s2, h2, l2⟩ W
section
variable {w : World}
set_option maxHeartbeats 1600000 in
set_option maxRecDepth 100000 in
theorem hol_ (p : Px) (a : Ad) (hp : p.ok) (ha : a.ok) : Calls Tryz.prog 13 #[pxV p, adV a] w fun e w' => e = .returned (.bool (holdsP p a)) ∧ Fr N0 w w' := by
  have hv0 := Lib.hid fun h => (validP_iff hp.ad).1 h
  obtain ⟨⟨s, h, l⟩, m⟩ := p
  obtain ⟨s', h', l'⟩ := a
  have c14 : ∀ (w : World) {b : Bool}, validP ⟨⟨s, h, l⟩, m⟩ = b → Calls Tryz.prog 12 #[.agg #[.bool s, .int .u64 (h : Int), .int .u64 (l : Int), .int .i64 m]] w fun e w' => e = .returned (.bool b) ∧ Fr N0 w w' := fun w b hb => hb ▸ val_ (w := w) ⟨⟨s, h, l⟩, m⟩ hp
  have c29 : ∀ (w : World) {b : Bool}, validA ⟨s', h', l'⟩ = b → Calls Tryz.prog 27 #[.agg #[.bool s', .int .u64 (h' : Int), .int .u64 (l' : Int)]] w fun e w' => e = .returned (.bool b) ∧ Fr N0 w w' := fun w b hb => hb ▸ aval (w := w) ⟨s', h', l'⟩
  obtain ⟨s2, h3, l2, hcut⟩ : ∃ s2 h2 l2, cutA ⟨s', h', l'⟩ m = ⟨s2, h2, l2⟩ := ⟨_, _, _, rfl⟩
  have c31 : ∀ w : World, 0 ≤ m → m ≤ 128 → Calls Tryz.prog 29 #[.agg #[.bool s', .int .u64 (h' : Int), .int .u64 (l' : Int)], .int .i64 m] w fun e w' => e = .returned (.agg #[.bool s2, .int .u64 (h3 : Int), .int .u64 (l2 : Int)]) ∧ Fr N0 w w' := by
    intro w h1 h2
    have := cut_ (w := w) ⟨s', h', l'⟩ ha m h1 h2
    rw [hcut] at this
    exact this
  obtain ⟨d, hdd⟩ : ∃ d, d = decide ((⟨s2, h3, l2⟩ : Ad) = ⟨s, h, l⟩) := ⟨_, rfl⟩
  have E : ∀ W, Sem.run Tryz.prog (binOp .eql 24 (.agg #[.bool s2, .int .u64 (h3 : Int), .int .u64 (l2 : Int)]) (.agg #[.bool s, .int .u64 (h : Int), .int .u64 (l : Int)])) W = .ok (.bool d) W := fun W => by rw [hdd]; exact ad_eql_lit W
  have EG : ∀ X Y W, Sem.run Tryz.prog (eqGuard .eql 24 X Y (.agg #[.bool s2, .int .u64 (h3 : Int), .int .u64 (l2 : Int)]) (.agg #[.bool s, .int .u64 (h : Int), .int .u64 (l : Int)])) W = .ok () W := fun X Y W => ad_guard_lit X Y W
  have HDD := Lib.hid hdd
  clear hdd
  have key : ∀ b b', validP ⟨⟨s, h, l⟩, m⟩ = b → validA ⟨s', h', l'⟩ = b' → ((b = false ∧ holdsP ⟨⟨s, h, l⟩, m⟩ ⟨s', h', l'⟩ = false) ∨ (b = true ∧ b' = false ∧ holdsP ⟨⟨s, h, l⟩, m⟩ ⟨s', h', l'⟩ = false) ∨ (b = true ∧ b' = true ∧ decide (s = s') = false ∧ (s == s') = false ∧ holdsP ⟨⟨s, h, l⟩, m⟩ ⟨s', h', l'⟩ = false)
      ∨ (b = true ∧ b' = true ∧ s = s' ∧ 0 ≤ m ∧ m ≤ 128 ∧ holdsP ⟨⟨s, h, l⟩, m⟩ ⟨s', h', l'⟩ = d)) →
      Calls Tryz.prog 13 #[pxV ⟨⟨s, h, l⟩, m⟩, adV ⟨s', h', l'⟩] w fun e w' => e = .returned (.bool (holdsP ⟨⟨s, h, l⟩, m⟩ ⟨s', h', l'⟩)) ∧ Fr N0 w w' := by
    rintro b b' e1 e2 hc
    have k14 := fun w => c14 w e1
    have k29 := fun w => c29 w e2
    clear c14 c29 e1 e2
    go_enter Tryz.func13, Tryz.ntmps13
    unfold adV pxV
    go_wp2_with fail
    have HA1 := Lib.hid ((Blk.new w 26 #[.bool s, .int .u64 (h : Int), .int .u64 (l : Int), .int .i64 m]).alloc (.cells #[.bool s', .int .u64 (h' : Int), .int .u64 (l' : Int)] 24))
    have HA2 := Lib.hid (Blk.alloc2 w (.cells #[.bool s, .int .u64 (h : Int), .int .u64 (l : Int), .int .i64 m] 26) 24 #[.bool s', .int .u64 (h' : Int), .int .u64 (l' : Int)])
    have HF1 := Lib.hid (Fr.alloc (Fr.alloc (Fr.refl N0 w) (.cells #[.bool s, .int .u64 (h : Int), .int .u64 (l : Int), .int .i64 m] 26)) (.cells #[.bool s', .int .u64 (h' : Int), .int .u64 (l' : Int)] 24))
    generalize (World.alloc (w.alloc _) _) = w1 at *
    obtain ⟨g2, hg2⟩ : ∃ g2, g2 = w.heap.size + 1 := ⟨_, rfl⟩
    rw [← hg2] at HA2 ⊢
    clear hg2
    obtain ⟨g1, hg1⟩ : ∃ g1, g1 = w.heap.size := ⟨_, rfl⟩
    rw [← hg1] at HA1 ⊢
    clear hg1
    have HZ := Lib.hid (fun W (hf : Fr N0 w1 W) => (HA1.out.fr hf id).pxx)
    have HY := Lib.hid (fun W (hf : Fr N0 w1 W) => (HA2.out.fr hf id).adx)
    have z0 := fun x : Fam w1 => (HZ.out x.w x.fr).1
    have z1 := fun x : Fam w1 => (HZ.out x.w x.fr).2.1
    have z2 := fun x : Fam w1 => (HZ.out x.w x.fr).2.2.1
    have z3 := fun x : Fam w1 => (HZ.out x.w x.fr).2.2.2
    have y0 := fun x : Fam w1 => (HY.out x.w x.fr).1
    have y1 := fun x : Fam w1 => (HY.out x.w x.fr).2.1
    have y2 := fun x : Fam w1 => (HY.out x.w x.fr).2.2
    rcases hc with ⟨rfl, he⟩ | ⟨rfl, rfl, he⟩ | ⟨rfl, rfl, hd, hd', he⟩ | ⟨rfl, rfl, rfl, hm, hm', he⟩
    all_goals
      have HE := Lib.hid he
      clear he
      refine wp_region_fam (by kernel_rfl) (by kernel_rfl) ?_
      repeat (go_big_quiet_step ((first
        | (go_at_call 12; exact fam_call (k14 _))
        | (go_at_call 27; exact fam_call (k29 _))
        | (go_at_call 29; exact fam_call (c31 _ hm hm')))))
      first | refine wpQuiet_nil ?_ | (go_big_quiet_want; go_big_quiet_op; done)
      rintro _ ⟨xq, rfl⟩
      go_wp2_with fail
      go_ret
      exact ⟨retb HE.out.symm, HF1.out.trans xq.fr⟩
  refine key _ _ rfl rfl ?_
  unfold holdsP
  rw [hcut]
  have hdd := HDD.out
  cases h1 : validP ⟨⟨s, h, l⟩, m⟩ with
  | false => exact .inl ⟨rfl, rfl⟩
  | true =>
    cases h2 : validA ⟨s', h', l'⟩ with
    | false => exact .inr (.inl ⟨rfl, rfl, by simp⟩)
    | true =>
      obtain ⟨k1, k2, k3, k4⟩ := hv0.out h1
      have hw : widthA ⟨s, h, l⟩ ≤ 128 := by unfold widthA; split <;> omega
      by_cases h3 : s = s'
      · exact .inr (.inr (.inr ⟨rfl, rfl, h3, k2, by have : m ≤ (widthA ⟨s, h, l⟩ : Int) := k3
                                                     omega, by rw [hdd]; simp [h3]⟩))
      · exact .inr (.inr (.inl ⟨rfl, rfl, by simpa using h3, by simpa using h3, by simp [h3]⟩))
end
end Go.Proofs.YtcameghlkplgfaaGreatDoor
