/- prefix.Covers. -/
import Derived.Test.YtcameghlkplgfaaGreatDoorHo
namespace Go.Proofs.YtcameghlkplgfaaGreatDoor
open Go.RowKit
section
variable {w : World}
set_option maxHeartbeats 1600000 in
set_option maxRecDepth 100000 in
theorem cov_ (p q : Px) (hp : p.ok) (hq : q.ok) : Calls Tryz.prog 14 #[pxV p, pxV q] w fun e w' => e = .returned (.bool (coversP p q)) ∧ Fr N0 w w' := by
  obtain ⟨⟨s, h, l⟩, m⟩ := p
  obtain ⟨⟨s', h', l'⟩, m'⟩ := q
  have c14 : ∀ (w : World) {b : Bool}, validP ⟨⟨s', h', l'⟩, m'⟩ = b → Calls Tryz.prog 12 #[.agg #[.bool s', .int .u64 (h' : Int), .int .u64 (l' : Int), .int .i64 m']] w fun e w' => e = .returned (.bool b) ∧ Fr N0 w w' := fun w b hb => hb ▸ val_ (w := w) ⟨⟨s', h', l'⟩, m'⟩ hq
  obtain ⟨d, hd⟩ : ∃ d, d = holdsP ⟨⟨s, h, l⟩, m⟩ ⟨s', h', l'⟩ := ⟨_, rfl⟩
  have c16 : ∀ (w : World), Calls Tryz.prog 13 #[.agg #[.bool s, .int .u64 (h : Int), .int .u64 (l : Int), .int .i64 m], .agg #[.bool s', .int .u64 (h' : Int), .int .u64 (l' : Int)]] w fun e w' => e = .returned (.bool d) ∧ Fr N0 w w' := fun w => by rw [hd]; exact hol_ (w := w) ⟨⟨s, h, l⟩, m⟩ ⟨s', h', l'⟩ hp hq.ad
  have HD := Lib.hid hd
  clear hd
  have key : ∀ b, validP ⟨⟨s', h', l'⟩, m'⟩ = b → ((b = false ∧ coversP ⟨⟨s, h, l⟩, m⟩ ⟨⟨s', h', l'⟩, m'⟩ = false) ∨ (b = true ∧ m' < m ∧ decide (m ≤ m') = false ∧ coversP ⟨⟨s, h, l⟩, m⟩ ⟨⟨s', h', l'⟩, m'⟩ = false) ∨ (b = true ∧ m ≤ m' ∧ coversP ⟨⟨s, h, l⟩, m⟩ ⟨⟨s', h', l'⟩, m'⟩ = d)) →
      Calls Tryz.prog 14 #[pxV ⟨⟨s, h, l⟩, m⟩, pxV ⟨⟨s', h', l'⟩, m'⟩] w fun e w' => e = .returned (.bool (coversP ⟨⟨s, h, l⟩, m⟩ ⟨⟨s', h', l'⟩, m'⟩)) ∧ Fr N0 w w' := by
    rintro b e1 hc
    have k14 := fun w => c14 w e1
    clear c14 e1
    go_enter Tryz.func14, Tryz.ntmps14
    unfold pxV
    go_wp2_with fail
    have HA1 := Lib.hid ((Blk.new w 26 #[Value.bool s, Value.int .u64 (h : Int), Value.int .u64 (l : Int), Value.int .i64 m]).alloc (.cells #[Value.bool s', Value.int .u64 (h' : Int), Value.int .u64 (l' : Int), Value.int .i64 m'] 26))
    have HA2 := Lib.hid (Blk.alloc2 w (.cells #[Value.bool s, Value.int .u64 (h : Int), Value.int .u64 (l : Int), Value.int .i64 m] 26) 26 #[Value.bool s', Value.int .u64 (h' : Int), Value.int .u64 (l' : Int), Value.int .i64 m'])
    have HF1 := Lib.hid (Fr.alloc (Fr.alloc (Fr.refl N0 w) (.cells #[Value.bool s, Value.int .u64 (h : Int), Value.int .u64 (l : Int), Value.int .i64 m] 26)) (.cells #[Value.bool s', Value.int .u64 (h' : Int), Value.int .u64 (l' : Int), Value.int .i64 m'] 26))
    generalize World.alloc (w.alloc _) _ = w1 at *
    obtain ⟨g2, hg2⟩ : ∃ g2, g2 = w.heap.size + 1 := ⟨_, rfl⟩
    rw [← hg2] at HA2 ⊢
    have HG2 : Hid (w.heap.size ≤ g2) := Lib.hid (by omega)
    obtain ⟨g1, hg1⟩ : ∃ g1, g1 = w.heap.size := ⟨_, rfl⟩
    rw [← hg1] at HA1 ⊢
    have HG1 : Hid (w.heap.size ≤ g1) := Lib.hid (by omega)
    have HN1_2 : Hid (g1 ≠ g2) := Lib.hid (by omega)
    clear hg1 hg2
    have HZ1 : Hid (∀ W, Fr N0 w1 W → Blk W g1 26 #[Value.bool s, Value.int .u64 (h : Int), Value.int .u64 (l : Int), Value.int .i64 m]) := Lib.hid fun W hf => HA1.out.fr hf id
    have HZ2 : Hid (∀ W, Fr N0 w1 W → Blk W g2 26 #[Value.bool s', Value.int .u64 (h' : Int), Value.int .u64 (l' : Int), Value.int .i64 m']) := Lib.hid fun W hf => HA2.out.fr hf id
    have F := Lib.hid (Fr.refl N0 w1)
    obtain ⟨z1_0, z1_1, z1_2, z1_3⟩ := (HZ1.out _ F.out).c4
    obtain ⟨z2_0, z2_1, z2_2, z2_3⟩ := (HZ2.out _ F.out).c4
    rcases hc with ⟨rfl, he⟩ | ⟨rfl, hm, hm', he⟩ | ⟨rfl, hm, he⟩
    all_goals
      have HE := Lib.hid he
      clear he
      go_wp2_with (first
        | (go_at_call 12; refine (k14 _).mono ?_; rintro e w2 ⟨rfl, hf⟩; have F := Lib.hid (F.out.trans hf); obtain ⟨z1_0, z1_1, z1_2, z1_3⟩ := (HZ1.out _ F.out).c4; obtain ⟨z2_0, z2_1, z2_2, z2_3⟩ := (HZ2.out _ F.out).c4)
        | (go_at_call 13; refine (c16 _).mono ?_; rintro e w2 ⟨rfl, hf⟩; have F := Lib.hid (F.out.trans hf); obtain ⟨z1_0, z1_1, z1_2, z1_3⟩ := (HZ1.out _ F.out).c4; obtain ⟨z2_0, z2_1, z2_2, z2_3⟩ := (HZ2.out _ F.out).c4))
      go_ret
      exact ⟨retb HE.out.symm, HF1.out.trans F.out⟩
  refine key _ rfl ?_
  unfold coversP
  cases h1 : validP ⟨⟨s', h', l'⟩, m'⟩ with
  | false => exact .inl ⟨rfl, rfl⟩
  | true =>
    by_cases h2 : m ≤ m'
    · exact .inr (.inr ⟨rfl, h2, by rw [HD.out]; simp [h2]⟩)
    · exact .inr (.inl ⟨rfl, by omega, by simpa using h2, by simp [h2]⟩)
end
end Go.Proofs.YtcameghlkplgfaaGreatDoor
