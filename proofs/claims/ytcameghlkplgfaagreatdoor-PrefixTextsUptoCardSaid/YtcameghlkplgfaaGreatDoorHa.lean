/- prefix.Halves. -/
import Derived.Test.YtcameghlkplgfaaGreatDoorLe
import Derived.Laws.Bits64b
namespace Go.Proofs.YtcameghlkplgfaaGreatDoor
open Go.RowKit
def halvesP (p : Px) : Px × Px × Int := if fullP p = true then (⟨⟨false, 0, 0⟩, 0⟩, ⟨⟨false, 0, 0⟩, 0⟩, 1) else (lowP p, highP p, 0)
theorem ret_cell3 {fn : Func} {p q u : Tmp} {ty : TypeId} {tmps cs ds : Array Value} {w : World} {g g' : Nat} {fs} {R : Ending → World → Prop} (hr : fn.results = #[.cell p ty, .cell q ty, .tmp u]) (hp : tmps.getD p undef = .pointer (some ⟨g, 0, none⟩)) (hq : tmps.getD q undef = .pointer (some ⟨g', 0, none⟩))
    (hb : Blk w g ty cs) (hc : Blk w g' ty ds) (hu : Tryz.prog.underlying ty = some (.struct fs)) (hi : (Tryz.prog.info? ty).map (·.size) = some cs.size) (hi' : (Tryz.prog.info? ty).map (·.size) = some ds.size)
    (hR : R (.returned (.tuple #[.agg cs, .agg ds, tmps.getD u undef])) w) : bodyPost Tryz.prog fn R .ret ⟨tmps, []⟩ w := by
  refine bodyPost_ret_by ?_ rfl hR
  have hp' : tmps[p]?.getD undef = .pointer (some ⟨g, 0, none⟩) := by simpa using hp
  have hq' : tmps[q]?.getD undef = .pointer (some ⟨g', 0, none⟩) := by simpa using hq
  simp [results, hr, Sem.run_bind, hp', hq', asAddr, Result.andThen, run_loadVar_row w g ty ty cs (0, 0) _ hb hu rfl hi, run_loadVar_row w g' ty ty ds (0, 0) _ hc hu rfl hi']
theorem or_bit {n k : Nat} (hn : n < 18446744073709551616) (hk : k ≤ 63) (hd : 2 ^ (k + 1) ∣ n) : bits .or .u64 (n : Int) (IntKind.u64.wrap (2 ^ k)) = ((n + 2 ^ k : Nat) : Int) := by
  have h1 : 2 ^ k < 18446744073709551616 := by rw [p64]; exact Nat.pow_lt_pow_right (by omega) (by omega)
  have e : ((2 : Int) ^ k) = ((2 ^ k : Nat) : Int) := by simp
  rw [e, IntWalk.u64_in _ (by omega), bits_or_u64_nat n (2 ^ k) hn h1]
  obtain ⟨q, rfl⟩ := hd
  congr 1
  have h2 : 2 ^ k < 2 ^ (k + 1) := Nat.pow_lt_pow_right (by omega) (by omega)
  rw [Nat.two_pow_add_eq_or_of_lt h2]
theorem Blk.set4 {w : World} {g : Nat} {t : TypeId} {a b c d : Value} (k : Blk w g t #[a, b, c, d]) (a' b' c' d' : Value) : Blk ((((w.setCell ⟨g, 0, none⟩ a').setCell ⟨g, 1, none⟩ b').setCell ⟨g, 2, none⟩ c').setCell ⟨g, 3, none⟩ d') g t #[a', b', c', d'] := by
  have := (((k.set_ 0 a').set_ 1 b').set_ 2 c').set_ 3 d'
  simpa using this
theorem Blk.far4 {w : World} {g x : Nat} {t : TypeId} {cs : Array Value} (k : Blk w g t cs) (hx : g ≠ x) (a' b' c' d' : Value) : Blk ((((w.setCell ⟨x, 0, none⟩ a').setCell ⟨x, 1, none⟩ b').setCell ⟨x, 2, none⟩ c').setCell ⟨x, 3, none⟩ d') g t cs :=
  (((k.far (p := ⟨x, 0, none⟩) hx a').far (p := ⟨x, 1, none⟩) hx b').far (p := ⟨x, 2, none⟩) hx c').far (p := ⟨x, 3, none⟩) hx d'
theorem first_dvd {n k : Nat} {m : Int} {all : Nat} (h : first n m all = n) (hk : all - (min (max m 0) all).toNat = k) : 2 ^ k ∣ n := by
  unfold first at h
  rw [hk] at h
  exact ⟨_, h.symm.trans (Nat.mul_comm _ _)⟩
theorem two_new {P : Program} {C : Code} {Q : Exit → Act → World → Prop} {a : Act} {X : World} {t : TypeId} {c5 c6 : Array Value}
    (h : ∀ w5, Fr N0 X w5 → Blk w5 X.heap.size t c5 → Blk w5 (X.heap.size + 1) t c6 → C.wp P Q a w5) : C.wp P Q a ((X.alloc (.cells c5 t)).alloc (.cells c6 t)).drew :=
  h _ (by repeat first | exact Fr.refl _ _ | refine Fr.drew ?_ | refine Fr.alloc ?_ _) (((Blk.new X t c5).alloc _).drew) ((Blk.alloc2 X _ t c6).drew)
section
variable {w : World}
set_option maxHeartbeats 1600000 in
set_option maxRecDepth 100000 in
theorem halv_ (p : Px) (hp : p.ok) : Calls Tryz.prog 10 #[pxV p] w fun e w' => e = .returned (.tuple #[pxV (halvesP p).1, pxV (halvesP p).2.1, .int .i64 (halvesP p).2.2]) ∧ Fr N0 w w' := by
  obtain ⟨⟨s, h, l⟩, m⟩ := p
  have c14 : ∀ (w : World) {b : Bool}, validP ⟨⟨s, h, l⟩, m⟩ = b → Calls Tryz.prog 12 #[.agg #[.bool s, .int .u64 (h : Int), .int .u64 (l : Int), .int .i64 m]] w fun e w' => e = .returned (.bool b) ∧ Fr N0 w w' := fun w b hb => hb ▸ val_ (w := w) ⟨⟨s, h, l⟩, m⟩ hp
  obtain ⟨wi, hwi⟩ : ∃ wi, wi = widthA ⟨s, h, l⟩ := ⟨_, rfl⟩
  have c30 : ∀ w : World, Calls Tryz.prog 28 #[.agg #[.bool s, .int .u64 (h : Int), .int .u64 (l : Int)]] w fun e w' => e = .returned (.int .i64 (wi : Int)) ∧ Fr N0 w w' := fun w => by rw [hwi]; exact wid (w := w) ⟨s, h, l⟩
  have HW := Lib.hid hwi
  clear hwi
  have key : ∀ b r, validP ⟨⟨s, h, l⟩, m⟩ = b → halvesP ⟨⟨s, h, l⟩, m⟩ = r → ((b = false ∧ r = (⟨⟨false, 0, 0⟩, 0⟩, ⟨⟨false, 0, 0⟩, 0⟩, 1)) ∨ (b = true ∧ decide (m = (wi : Int)) = true ∧ (m == (wi : Int)) = true ∧ r = (⟨⟨false, 0, 0⟩, 0⟩, ⟨⟨false, 0, 0⟩, 0⟩, 1)) ∨ (b = true ∧ decide (m = (wi : Int)) = false ∧ (m == (wi : Int)) = false ∧ m + 1 ≤ 128 ∧ 0 ≤ m ∧ ∃ i : Nat, m = (i : Int) ∧ ((s = false ∧ i ≤ 31 ∧ bits .or .u64 (l : Int) (IntKind.u64.wrap (2 ^ (31 - i))) = ((l + 2 ^ (31 - i) : Nat) : Int) ∧ r = (⟨⟨s, h, l⟩, m + 1⟩, ⟨⟨s, h, l + 2 ^ (31 - i)⟩, m + 1⟩, 0)) ∨ (s = true ∧ i < 64 ∧ bits .or .u64 (h : Int) (IntKind.u64.wrap (2 ^ (63 - i))) = ((h + 2 ^ (63 - i) : Nat) : Int) ∧ r = (⟨⟨s, h, l⟩, m + 1⟩, ⟨⟨s, h + 2 ^ (63 - i), l⟩, m + 1⟩, 0)) ∨ (s = true ∧ 64 ≤ i ∧ i ≤ 127 ∧ bits .or .u64 (l : Int) (IntKind.u64.wrap (2 ^ (127 - i))) = ((l + 2 ^ (127 - i) : Nat) : Int) ∧ r = (⟨⟨s, h, l⟩, m + 1⟩, ⟨⟨s, h, l + 2 ^ (127 - i)⟩, m + 1⟩, 0))))) →
      Calls Tryz.prog 10 #[pxV ⟨⟨s, h, l⟩, m⟩] w fun e w' => e = .returned (.tuple #[pxV r.1, pxV r.2.1, .int .i64 r.2.2]) ∧ Fr N0 w w' := by
    rintro b r e1 er hc
    have k14 := fun w => c14 w e1
    clear c14 e1 er
    go_enter Tryz.func10, Tryz.ntmps10
    unfold pxV
    go_wp2_with fail
    have HA1 := Lib.hid (((Blk.new w 26 #[Value.bool s, Value.int .u64 (h : Int), Value.int .u64 (l : Int), Value.int .i64 m]).alloc (.cells #[Value.bool false, Value.int .u64 0, Value.int .u64 0, Value.int .i64 0] 26)).alloc (.cells #[Value.bool false, Value.int .u64 0, Value.int .u64 0, Value.int .i64 0] 26))
    have HA2 := Lib.hid ((Blk.alloc2 w (.cells #[Value.bool s, Value.int .u64 (h : Int), Value.int .u64 (l : Int), Value.int .i64 m] 26) 26 #[Value.bool false, Value.int .u64 0, Value.int .u64 0, Value.int .i64 0]).alloc (.cells #[Value.bool false, Value.int .u64 0, Value.int .u64 0, Value.int .i64 0] 26))
    have HA3 := Lib.hid (Blk.alloc3 w (.cells #[Value.bool s, Value.int .u64 (h : Int), Value.int .u64 (l : Int), Value.int .i64 m] 26) (.cells #[Value.bool false, Value.int .u64 0, Value.int .u64 0, Value.int .i64 0] 26) 26 #[Value.bool false, Value.int .u64 0, Value.int .u64 0, Value.int .i64 0])
    have HF1 := Lib.hid (Fr.alloc (Fr.alloc (Fr.alloc (Fr.refl N0 w) (.cells #[Value.bool s, Value.int .u64 (h : Int), Value.int .u64 (l : Int), Value.int .i64 m] 26)) (.cells #[Value.bool false, Value.int .u64 0, Value.int .u64 0, Value.int .i64 0] 26)) (.cells #[Value.bool false, Value.int .u64 0, Value.int .u64 0, Value.int .i64 0] 26))
    generalize World.alloc (World.alloc (w.alloc _) _) _ = w1 at *
    obtain ⟨g3, hg3⟩ : ∃ g3, g3 = w.heap.size + 2 := ⟨_, rfl⟩
    rw [← hg3] at HA3 ⊢
    have HG3 : Hid (w.heap.size ≤ g3) := Lib.hid (by omega)
    obtain ⟨g2, hg2⟩ : ∃ g2, g2 = w.heap.size + 1 := ⟨_, rfl⟩
    rw [← hg2] at HA2 ⊢
    have HG2 : Hid (w.heap.size ≤ g2) := Lib.hid (by omega)
    obtain ⟨g1, hg1⟩ : ∃ g1, g1 = w.heap.size := ⟨_, rfl⟩
    rw [← hg1] at HA1 ⊢
    have HG1 : Hid (w.heap.size ≤ g1) := Lib.hid (by omega)
    have HN2_3 : Hid (g2 ≠ g3) := Lib.hid (by omega)
    have HN1_2 : Hid (g1 ≠ g2) := Lib.hid (by omega)
    have HN1_3 : Hid (g1 ≠ g3) := Lib.hid (by omega)
    clear hg1 hg2 hg3
    have HZ1 : Hid (∀ W, Fr N0 w1 W → Blk W g1 26 #[Value.bool s, Value.int .u64 (h : Int), Value.int .u64 (l : Int), Value.int .i64 m]) := Lib.hid fun W hf => HA1.out.fr hf id
    have HZ2 : Hid (∀ W, Fr N0 w1 W → Blk W g2 26 #[Value.bool false, Value.int .u64 0, Value.int .u64 0, Value.int .i64 0]) := Lib.hid fun W hf => HA2.out.fr hf id
    have HZ3 : Hid (∀ W, Fr N0 w1 W → Blk W g3 26 #[Value.bool false, Value.int .u64 0, Value.int .u64 0, Value.int .i64 0]) := Lib.hid fun W hf => HA3.out.fr hf id
    have F := Lib.hid (Fr.refl N0 w1)
    have z1_0 := fun x : Fam w1 => (HZ1.out x.w x.fr).c4.1
    have z1_1 := fun x : Fam w1 => (HZ1.out x.w x.fr).c4.2.1
    have z1_2 := fun x : Fam w1 => (HZ1.out x.w x.fr).c4.2.2.1
    have z1_3 := fun x : Fam w1 => (HZ1.out x.w x.fr).c4.2.2.2
    have z2_0 := fun x : Fam w1 => (HZ2.out x.w x.fr).c4.1
    have z2_1 := fun x : Fam w1 => (HZ2.out x.w x.fr).c4.2.1
    have z2_2 := fun x : Fam w1 => (HZ2.out x.w x.fr).c4.2.2.1
    have z2_3 := fun x : Fam w1 => (HZ2.out x.w x.fr).c4.2.2.2
    have z3_0 := fun x : Fam w1 => (HZ3.out x.w x.fr).c4.1
    have z3_1 := fun x : Fam w1 => (HZ3.out x.w x.fr).c4.2.1
    have z3_2 := fun x : Fam w1 => (HZ3.out x.w x.fr).c4.2.2.1
    have z3_3 := fun x : Fam w1 => (HZ3.out x.w x.fr).c4.2.2.2
    have f2_0 := fun x : Fam w1 => (HZ2.out x.w x.fr).frozen 0
    have f2_1 := fun x : Fam w1 => (HZ2.out x.w x.fr).frozen 1
    have f2_2 := fun x : Fam w1 => (HZ2.out x.w x.fr).frozen 2
    have f2_3 := fun x : Fam w1 => (HZ2.out x.w x.fr).frozen 3
    have f3_0 := fun x : Fam w1 => (HZ3.out x.w x.fr).frozen 0
    have f3_1 := fun x : Fam w1 => (HZ3.out x.w x.fr).frozen 1
    have f3_2 := fun x : Fam w1 => (HZ3.out x.w x.fr).frozen 2
    have f3_3 := fun x : Fam w1 => (HZ3.out x.w x.fr).frozen 3
    rcases hc with ⟨rfl, he⟩ | ⟨rfl, hm, hmb, he⟩ | ⟨rfl, hm, hmb, hm1, hm0, i, rfl, ⟨rfl, hi, ho, he⟩ | ⟨rfl, hi, ho, he⟩ | ⟨rfl, hi, hi2, ho, he⟩⟩
    all_goals
      have HE := Lib.hid he
      clear he
      try (have HOR := Lib.hid ho; clear ho)
      refine wp_region_fam (by kernel_rfl) (by kernel_rfl) ?_
      repeat (go_big_quiet_step ((first
        | (go_at_call 12; exact fam_call (k14 _))
        | (go_at_call 28; exact fam_call (c30 _)))))
      first | refine wpQuiet_nil ?_ | (go_big_quiet_want; go_big_quiet_op; done)
      rintro _ ⟨xq, rfl⟩
      have hlt1 := (HZ1.out _ xq.fr).lt
      have hlt2 := (HZ2.out _ xq.fr).lt
      have hlt3 := (HZ3.out _ xq.fr).lt
      go_wp2_with (first
        | (refine wpList_store_row rfl 26 _ _ rfl g2 _ rfl rfl _ _ (HZ2.out _ xq.fr) rfl rfl (by simp [Value.oneCell']) ?_)
        | (refine wpList_store_row rfl 26 _ _ rfl g3 _ rfl rfl _ _ ((HZ3.out _ xq.fr).fr (Fr.setRow (Fr.refl (fun i => i = g2) _) (.inl rfl) _) (fun e => HN2_3.out e.symm)) rfl rfl (by simp [Value.oneCell']) ?_))
      all_goals try go_region
      all_goals try go_wp2_with fail
      first
        | (refine ret_cell3 rfl rfl rfl (((HZ2.out _ xq.fr).row _).fr (Fr.setRow (Fr.refl (fun i => i = g3) _) (.inl rfl) _) HN2_3.out) (((HZ3.out _ xq.fr).fr (Fr.setRow (Fr.refl (fun i => i = g2) _) (.inl rfl) _) (fun e => HN2_3.out e.symm)).row _) Tryz.underlying26 rfl rfl ⟨?_, Fr.setRow (Fr.setRow (HF1.out.trans xq.fr) (.inr HG2.out) _) (.inr HG3.out) _⟩
           rw [HE.out]
           rfl)
        | (refine two_new fun w5 hf5 b5 b6 => ?_
           have F5 := Lib.hid (xq.fr.trans hf5)
           have B2 := Lib.hid (HZ2.out _ F5.out)
           have B3 := Lib.hid (HZ3.out _ F5.out)
           obtain ⟨g6, hg6⟩ : ∃ g, g = xq.w.heap.size + 1 := ⟨_, rfl⟩
           obtain ⟨g5, hg5⟩ : ∃ g, g = xq.w.heap.size := ⟨_, rfl⟩
           rw [← hg6] at b6 ⊢
           rw [← hg5] at b5 hlt1 hlt2 hlt3 ⊢
           have n52 : g5 ≠ g2 := by omega
           have n53 : g5 ≠ g3 := by omega
           have n62 : g6 ≠ g2 := by omega
           have n63 : g6 ≠ g3 := by omega
           have n23 := HN2_3.out
           clear hg6 hg5 hlt1 hlt2 hlt3
           obtain ⟨p0, p1, p2, p3⟩ := b5.c4
           obtain ⟨q0, q1, q2, q3⟩ := b6.c4
           obtain ⟨u0, u1, u2, u3⟩ := B2.out.c4
           obtain ⟨v0, v1, v2, v3⟩ := B3.out.c4
           have fu0 := B2.out.frozen 0
           have fu1 := B2.out.frozen 1
           have fu2 := B2.out.frozen 2
           have fu3 := B2.out.frozen 3
           have fv0 := B3.out.frozen 0
           have fv1 := B3.out.frozen 1
           have fv2 := B3.out.frozen 2
           have fv3 := B3.out.frozen 3
           go_region
           all_goals go_wp2_with fail
           all_goals refine ret_cell3 rfl rfl rfl ((B2.out.set4 _ _ _ _).far4 n23 _ _ _ _).drew ((B3.out.far4 n23.symm _ _ _ _).set4 _ _ _ _).drew Tryz.underlying26 rfl rfl ⟨?_, by
             refine Fr.drew ?_
             iterate 4 refine Fr.setCell ?_ (.inr HG3.out) _
             iterate 4 refine Fr.setCell ?_ (.inr HG2.out) _
             exact HF1.out.trans F5.out⟩
           all_goals rw [HE.out, HOR.out]
           all_goals rfl)
  refine key _ _ rfl rfl ?_
  have hw := HW.out
  unfold halvesP fullP
  cases h1 : validP ⟨⟨s, h, l⟩, m⟩ with
  | false => exact .inl ⟨rfl, by simp⟩
  | true =>
    obtain ⟨k1, k2, k3, k4⟩ := (validP_iff hp.ad).1 h1
    have hc : cutA ⟨s, h, l⟩ m = ⟨s, h, l⟩ := by
      unfold validP at h1
      simp only [Bool.and_eq_true, decide_eq_true_eq] at h1
      exact h1.2
    simp only at k2 k3
    rw [← hw] at k3
    by_cases h2 : m = (wi : Int)
    · exact .inr (.inl ⟨rfl, by simpa using h2, by simpa using h2, by rw [if_pos (by simp [← hw, h2])]⟩)
    · have hw2 : wi ≤ 128 := by rw [hw]; unfold widthA; split <;> omega
      refine .inr (.inr ⟨rfl, by simpa using h2, by simpa using h2, by omega, k2, m.toNat, by omega, ?_⟩)
      rw [if_neg (by simp [← hw, h2])]
      obtain ⟨o1, o2⟩ := hp.ad
      simp only at o1 o2
      unfold lowP highP highA
      unfold widthA at hw
      unfold cutA at hc
      cases s with
      | false =>
        simp only [Bool.false_eq_true, if_false, Ad.mk.injEq, true_and] at hw hc
        exact .inl ⟨rfl, by omega, or_bit o2 (by omega) (first_dvd hc.2 (by omega)), by simp⟩
      | true =>
        simp only [if_true, Ad.mk.injEq, true_and] at hw hc
        by_cases h4 : m < 64
        · exact .inr (.inl ⟨rfl, by omega, or_bit o1 (by omega) (first_dvd hc.1 (by omega)), by simp [h4]⟩)
        · exact .inr (.inr ⟨rfl, by omega, by omega, or_bit o2 (by omega) (first_dvd hc.2 (by omega)), by simp [h4]⟩)
end
end Go.Proofs.YtcameghlkplgfaaGreatDoor
