/- AddrOrders: what it answers. -/
import Derived.Test.YtejddfgmfdpnfaaDoorAw3
import Derived.Test.YtejddfgmfdpnfaaDoorRl
namespace Go.Proofs.YtejddfgmfdpnfaaDoor
open Go.Proofs Go.Shelf Go.RowKit
theorem neql_ad (x y : Ad) (w : World) : (binOp .neq 25 (adV x) (adV y)).run Tryd.prog w = .ok (.bool (!decide (x = y))) w := by
  have h := eql_ad x y w
  unfold adV at *
  rw [run_eql_struct] at h
  rw [run_neq_struct]
  revert h
  generalize (Op.equalIn 10000 _ _ _).run Tryd.prog w = r
  intro h
  cases r with
  | ok b w' => simp only [Result.andThen_ok, Result.ok.injEq, Value.bool.injEq] at h ⊢; obtain ⟨rfl, rfl⟩ := h; exact ⟨rfl, rfl⟩
  | halt x w' => simp [Result.andThen] at h
theorem nguard_ad (X Y : Operand) (x y : Ad) (w : World) : (eqGuard .neq 25 X Y (adV x) (adV y)).run Tryd.prog w = .ok () w :=
  run_eqGuard_agg w .neq _ X Y _ _ (by kernel_rfl)
set_option maxHeartbeats 6400000 in
set_option maxRecDepth 100000 in
theorem aorders_key (p q r : Ad) (hp : p.ok) (hq : q.ok) (hr : r.ok) (W : World) (m : Int) (hm : Mx m W) (hd : D4 W) (hsy : Sy W) (x y e vp vq lqr lpr : Bool) (hx : ltA p q = x) (hy : ltA q p = y) (he : decide (p = q) = e) (hvp : validA p = vp) (hvq : validA q = vq) (hqr : ltA q r = lqr) (hpr : ltA p r = lpr)
    (hl : (x = true ∧ y = false ∧ vp = true ∧ vq = true ∧ e = false ∧ lqr = false) ∨ (x = true ∧ y = false ∧ vp = true ∧ vq = true ∧ e = false ∧ lqr = true ∧ lpr = true) ∨ (x = false ∧ y = true ∧ vp = true ∧ vq = true ∧ e = false) ∨ (x = false ∧ y = false ∧ vp = false) ∨ (x = false ∧ y = false ∧ vp = true ∧ vq = false) ∨ (x = false ∧ y = false ∧ vp = true ∧ vq = true ∧ e = true)) :
    Calls Tryd.prog 8 #[adV p, adV q, adV r] W fun e w' => e = .returned (.bool true) ∧ Fr N0 W w' := by
  have ka := fun w => awake3 (w := w) m
  have kx := fun w => hx ▸ ales_ (w := w) p q hp hq
  have ky := fun w => hy ▸ ales_ (w := w) q p hq hp
  have kr := fun w => hx ▸ rales (w := w) p q hp hq
  have kpp := fun w => ltA_irrefl p ▸ ales_ (w := w) p p hp hp
  have kqr := fun w => hqr ▸ ales_ (w := w) q r hq hr
  have kpr := fun w => hpr ▸ ales_ (w := w) p r hp hr
  have kvp := fun w => hvp ▸ aval (w := w) p
  have kvq := fun w => hvq ▸ aval (w := w) q
  have E := fun w => he ▸ neql_ad p q w
  have EG := fun X Y w => nguard_ad X Y p q w
  clear hx hy hvp hvq hqr hpr he hp hq hr
  obtain ⟨s1, h1, l1⟩ := p
  obtain ⟨s2, h2, l2⟩ := q
  obtain ⟨s3, h3, l3⟩ := r
  unfold adV at *
  simp only at *
  have HL := Lib.hid hl
  clear hl
  obtain ⟨w, hw⟩ : ∃ w, w = W := ⟨_, rfl⟩
  rw [← hw] at hm hd hsy ⊢
  clear hw
  go_enter Tryd.func8, Tryd.ntmps8
  go_wp2_with fail
  have HA1 := Lib.hid (((Blk.new w 25 #[Value.bool s1, Value.int .u64 (h1 : Int), Value.int .u64 (l1 : Int)]).alloc (.cells #[Value.bool s2, Value.int .u64 (h2 : Int), Value.int .u64 (l2 : Int)] 25)).alloc (.cells #[Value.bool s3, Value.int .u64 (h3 : Int), Value.int .u64 (l3 : Int)] 25))
  have HA2 := Lib.hid ((Blk.alloc2 w (.cells #[Value.bool s1, Value.int .u64 (h1 : Int), Value.int .u64 (l1 : Int)] 25) 25 #[Value.bool s2, Value.int .u64 (h2 : Int), Value.int .u64 (l2 : Int)]).alloc (.cells #[Value.bool s3, Value.int .u64 (h3 : Int), Value.int .u64 (l3 : Int)] 25))
  have HA3 := Lib.hid (Blk.alloc3 w (.cells #[Value.bool s1, Value.int .u64 (h1 : Int), Value.int .u64 (l1 : Int)] 25) (.cells #[Value.bool s2, Value.int .u64 (h2 : Int), Value.int .u64 (l2 : Int)] 25) 25 #[Value.bool s3, Value.int .u64 (h3 : Int), Value.int .u64 (l3 : Int)])
  have HF1 := Lib.hid (Fr.alloc (Fr.alloc (Fr.alloc (Fr.refl N0 w) (.cells #[Value.bool s1, Value.int .u64 (h1 : Int), Value.int .u64 (l1 : Int)] 25)) (.cells #[Value.bool s2, Value.int .u64 (h2 : Int), Value.int .u64 (l2 : Int)] 25)) (.cells #[Value.bool s3, Value.int .u64 (h3 : Int), Value.int .u64 (l3 : Int)] 25))
  generalize World.alloc (World.alloc (w.alloc _) _) _ = w1 at *
  obtain ⟨g3, hg3⟩ : ∃ g3, g3 = w.heap.size + 2 := ⟨_, rfl⟩
  rw [← hg3] at HA3 ⊢
  have HG3 : Hid (w.heap.size ≤ g3) := Lib.hid (by omega)
  obtain ⟨g2, hg2⟩ : ∃ g2, g2 = w.heap.size + 1 := ⟨_, rfl⟩
  rw [← hg2] at HA2 ⊢
  have HG2 : Hid (w.heap.size ≤ g2) := Lib.hid (by omega)
  obtain ⟨g1, hg1⟩ : ∃ g1, g1 = w.heap.size := ⟨_, rfl⟩
  rw [← hg1] at HA1 ⊢
  have HG1 : Hid (w.heap.size ≤ g1) := Lib.hid (by omega)
  have HN2_3 : Hid (g2 ≠ g3) := Lib.hid (by omega)
  have HN1_2 : Hid (g1 ≠ g2) := Lib.hid (by omega)
  have HN1_3 : Hid (g1 ≠ g3) := Lib.hid (by omega)
  clear hg1 hg2 hg3
  have HZ1 : Hid (∀ W, Fr N0 w1 W → Blk W g1 25 #[Value.bool s1, Value.int .u64 (h1 : Int), Value.int .u64 (l1 : Int)]) := Lib.hid fun W hf => HA1.out.fr hf id
  have HZ2 : Hid (∀ W, Fr N0 w1 W → Blk W g2 25 #[Value.bool s2, Value.int .u64 (h2 : Int), Value.int .u64 (l2 : Int)]) := Lib.hid fun W hf => HA2.out.fr hf id
  have HZ3 : Hid (∀ W, Fr N0 w1 W → Blk W g3 25 #[Value.bool s3, Value.int .u64 (h3 : Int), Value.int .u64 (l3 : Int)]) := Lib.hid fun W hf => HA3.out.fr hf id
  have F := Lib.hid (Fr.refl N0 w1)
  have hm1 := hm.fr HF1.out
  have hd1 := hd.fr HF1.out
  have hs1 := hsy.fr HF1.out
  obtain ⟨z1_0, z1_1, z1_2⟩ := (HZ1.out _ F.out).c3
  obtain ⟨z2_0, z2_1, z2_2⟩ := (HZ2.out _ F.out).c3
  obtain ⟨z3_0, z3_1, z3_2⟩ := (HZ3.out _ F.out).c3
  refine (ka _ hm1 hs1 hd1).mono ?_
  rintro e w2 ⟨rfl, hf⟩
  have F := Lib.hid (F.out.trans hf); obtain ⟨z1_0, z1_1, z1_2⟩ := (HZ1.out _ F.out).c3; obtain ⟨z2_0, z2_1, z2_2⟩ := (HZ2.out _ F.out).c3; obtain ⟨z3_0, z3_1, z3_2⟩ := (HZ3.out _ F.out).c3
  clear ka hm hd hsy hm1 hd1 hs1
  go_wp2_with fail
  refine (kx _).mono ?_
  rintro e w3 ⟨rfl, hf⟩
  have F := Lib.hid (F.out.trans hf); obtain ⟨z1_0, z1_1, z1_2⟩ := (HZ1.out _ F.out).c3; obtain ⟨z2_0, z2_1, z2_2⟩ := (HZ2.out _ F.out).c3; obtain ⟨z3_0, z3_1, z3_2⟩ := (HZ3.out _ F.out).c3
  go_wp2_with fail
  refine (ky _).mono ?_
  rintro e w4 ⟨rfl, hf⟩
  have F := Lib.hid (F.out.trans hf); obtain ⟨z1_0, z1_1, z1_2⟩ := (HZ1.out _ F.out).c3; obtain ⟨z2_0, z2_1, z2_2⟩ := (HZ2.out _ F.out).c3; obtain ⟨z3_0, z3_1, z3_2⟩ := (HZ3.out _ F.out).c3
  clear kx ky
  have hl := HL.out
  clear HL
  rcases hl with ⟨rfl, rfl, rfl, rfl, rfl, rfl⟩ | ⟨rfl, rfl, rfl, rfl, rfl, rfl, rfl⟩ | ⟨rfl, rfl, rfl, rfl, rfl⟩ | ⟨rfl, rfl, rfl⟩ | ⟨rfl, rfl, rfl, rfl⟩ | ⟨rfl, rfl, rfl, rfl, rfl⟩
  all_goals
    go_wp2_with (first
      | (go_at_call 27; refine (kr _).mono ?_; rintro e w5 ⟨rfl, hf⟩; have F := Lib.hid (F.out.trans hf); obtain ⟨z1_0, z1_1, z1_2⟩ := (HZ1.out _ F.out).c3; obtain ⟨z2_0, z2_1, z2_2⟩ := (HZ2.out _ F.out).c3; obtain ⟨z3_0, z3_1, z3_2⟩ := (HZ3.out _ F.out).c3)
      | (go_at_call 18; first
        | ((with_reducible refine (kvp _).mono ?_); rintro e w5 ⟨rfl, hf⟩; have F := Lib.hid (F.out.trans hf); obtain ⟨z1_0, z1_1, z1_2⟩ := (HZ1.out _ F.out).c3; obtain ⟨z2_0, z2_1, z2_2⟩ := (HZ2.out _ F.out).c3; obtain ⟨z3_0, z3_1, z3_2⟩ := (HZ3.out _ F.out).c3)
        | ((with_reducible refine (kvq _).mono ?_); rintro e w5 ⟨rfl, hf⟩; have F := Lib.hid (F.out.trans hf); obtain ⟨z1_0, z1_1, z1_2⟩ := (HZ1.out _ F.out).c3; obtain ⟨z2_0, z2_1, z2_2⟩ := (HZ2.out _ F.out).c3; obtain ⟨z3_0, z3_1, z3_2⟩ := (HZ3.out _ F.out).c3))
      | (go_at_call 26; first
        | ((with_reducible refine (kpp _).mono ?_); rintro e w5 ⟨rfl, hf⟩; have F := Lib.hid (F.out.trans hf); obtain ⟨z1_0, z1_1, z1_2⟩ := (HZ1.out _ F.out).c3; obtain ⟨z2_0, z2_1, z2_2⟩ := (HZ2.out _ F.out).c3; obtain ⟨z3_0, z3_1, z3_2⟩ := (HZ3.out _ F.out).c3)
        | ((with_reducible refine (kqr _).mono ?_); rintro e w5 ⟨rfl, hf⟩; have F := Lib.hid (F.out.trans hf); obtain ⟨z1_0, z1_1, z1_2⟩ := (HZ1.out _ F.out).c3; obtain ⟨z2_0, z2_1, z2_2⟩ := (HZ2.out _ F.out).c3; obtain ⟨z3_0, z3_1, z3_2⟩ := (HZ3.out _ F.out).c3)
        | ((with_reducible refine (kpr _).mono ?_); rintro e w5 ⟨rfl, hf⟩; have F := Lib.hid (F.out.trans hf); obtain ⟨z1_0, z1_1, z1_2⟩ := (HZ1.out _ F.out).c3; obtain ⟨z2_0, z2_1, z2_2⟩ := (HZ2.out _ F.out).c3; obtain ⟨z3_0, z3_1, z3_2⟩ := (HZ3.out _ F.out).c3)))
    go_ret
    exact ⟨rfl, HF1.out.trans F.out⟩
theorem aorders_walk (W : World) (hS : W.ShapedOpen Tryd.prog) (ht : T10 W ∧ D4 W ∧ Sy W) (A : Array Value) (ra : Rd Tryd.prog W 25 A.toList) (B : Array Value) (rb : Rd Tryd.prog W 25 B.toList) (C : Array Value) (rc : Rd Tryd.prog W 25 C.toList) :
    Calls Tryd.prog 8 #[.agg A, .agg B, .agg C] W fun e w' => e = .returned (.bool true) ∧ Below W.heap.size W w' := by
  obtain ⟨p, ep, hp⟩ := rd_ad ra
  obtain ⟨q, eq, hq⟩ := rd_ad rb
  obtain ⟨r, er, hr⟩ := rd_ad rc
  rw [ad_arr ep, ad_arr eq, ad_arr er]
  obtain ⟨m, hm⟩ := mx_of hS
  refine (aorders_key p q r hp hq hr W m hm ht.2.1 ht.2.2 _ _ _ _ _ _ _ rfl rfl rfl rfl rfl rfl rfl ?_).mono fun e w' ⟨he, hf⟩ => ⟨he, hf.below (Nat.le_refl _) fun _ _ h => h.elim⟩
  cases hx : ltA p q with
  | true =>
    obtain ⟨v1, v2, _⟩ := ltA_iff.1 hx
    have hy : ltA q p = false := by
      cases hy : ltA q p with
      | false => rfl
      | true => have := ltA_trans hx hy; rw [ltA_irrefl] at this; cases this
    have hne : p ≠ q := by rintro rfl; rw [ltA_irrefl] at hx; cases hx
    cases hqr : ltA q r with
    | false => exact .inl ⟨rfl, hy, v1, v2, decide_eq_false hne, rfl⟩
    | true => exact .inr (.inl ⟨rfl, hy, v1, v2, decide_eq_false hne, rfl, ltA_trans hx hqr⟩)
  | false =>
    cases hy : ltA q p with
    | true =>
      obtain ⟨v1, v2, _⟩ := ltA_iff.1 hy
      have hne : p ≠ q := by rintro rfl; rw [ltA_irrefl] at hy; cases hy
      exact .inr (.inr (.inl ⟨rfl, rfl, v2, v1, decide_eq_false hne⟩))
    | false =>
      cases hv1 : validA p with
      | false => exact .inr (.inr (.inr (.inl ⟨rfl, rfl, rfl⟩)))
      | true =>
        cases hv2 : validA q with
        | false => exact .inr (.inr (.inr (.inr (.inl ⟨rfl, rfl, rfl, rfl⟩))))
        | true =>
          refine .inr (.inr (.inr (.inr (.inr ⟨rfl, rfl, rfl, rfl, ?_⟩))))
          by_cases e : p = q
          · exact decide_eq_true e
          · rcases ltA_total hv1 hv2 e with h | h
            · rw [hx] at h; cases h
            · rw [hy] at h; cases h
end Go.Proofs.YtejddfgmfdpnfaaDoor
