/- The document's Better. What the law names: a prefix, a neighbour, a step; what is to be known of the variable. Rows compared. A rib that is held beside other things; what the law calls on it. -/
import Derived.Test.YtnklbeigikcfkaaGreatDoorBe
import Derived.Test.YtnklbeigikcfkaaGreatDoorGf
import Derived.Test.YtnklbeigikcfkaaGreatDoorOpen
import Derived.Lib.LaidTab
import Derived.LaidSub
import Derived.MakeChecks
import Derived.Test.YtnklbeigikcfkaaGreatDoorGb
import Derived.Test.YtnklbeigikcfkaaGreatDoorGc
namespace Go.Proofs.YtnklbeigikcfkaaGreatDoor
open Go.Proofs Go.RowKit
def ahA (a b : Ad) : Int := if a = b then 0 else if lexB [b2i a.six, a.hi, a.lo] [b2i b.six, b.hi, b.lo] = true then -1 else 1
section
variable {w : World}
set_option maxHeartbeats 1600000 in
set_option maxRecDepth 100000 in
theorem rdst_ (p : Int) : Calls Tryz.prog 71 #[.int .i64 p] w fun e w' => e = .returned (.int .i64 (distP p)) ∧ Fr N0 w w' := by
  have hc : p = 0 ∨ p = 1 ∨ p = 2 ∨ p = 3 ∨ p = 4 ∨ (p ≠ 0 ∧ p ≠ 1 ∧ p ≠ 2 ∧ p ≠ 3 ∧ p ≠ 4) := by omega
  rcases hc with rfl | rfl | rfl | rfl | rfl | ⟨h0, h1, h2, h3, h4⟩
  case inr.inr.inr.inr.inr =>
    have e : distP p = 255 := by unfold distP; repeat rw [if_neg (by omega)]
    rw [e]
    have t0 : (p == 0) = false := by rw [beq_eq_false_iff_ne]; exact h0
    have t1 : (p == 1) = false := by rw [beq_eq_false_iff_ne]; exact h1
    have t2 : (p == 2) = false := by rw [beq_eq_false_iff_ne]; exact h2
    have t3 : (p == 3) = false := by rw [beq_eq_false_iff_ne]; exact h3
    have t4 : (p == 4) = false := by rw [beq_eq_false_iff_ne]; exact h4
    go_enter Tryz.func71, Tryz.ntmps71
    go_wp2_with fail
    go_ret
    exact ⟨rfl, Fr.refl _ _⟩
  all_goals
    go_enter Tryz.func71, Tryz.ntmps71
    go_wp2_with fail
    go_ret
    exact ⟨rfl, Fr.refl _ _⟩
set_option maxHeartbeats 3200000 in
set_option maxRecDepth 100000 in
theorem ahd_ (a b : Ad) : Calls Tryz.prog 72 #[adV a, adV b] w fun e w' => e = .returned (.int .i64 (ahA a b)) ∧ Fr N0 w w' := by
  have HS := Lib.hid (show ahA a b = if a = b then 0 else if lexB [b2i a.six, a.hi, a.lo] [b2i b.six, b.hi, b.lo] = true then -1 else 1 from rfl)
  obtain ⟨d, hd⟩ : ∃ d, d = decide (a = b) := ⟨_, rfl⟩
  have E : ∀ W, Sem.run Tryz.prog (binOp .eql 30 (adV a) (adV b)) W = .ok (.bool d) W := fun W => hd ▸ eql_ad a b W
  have EG : ∀ X Y W, Sem.run Tryz.prog (eqGuard .eql 30 X Y (adV a) (adV b)) W = .ok () W := fun X Y W => guard_ad .eql X Y a b W
  generalize ahA a b = r at *
  obtain ⟨s, h, l⟩ := a
  obtain ⟨s', h', l'⟩ := b
  unfold adV at E EG
  simp only at *
  have hc : (d = true ∧ r = 0) ∨ (d = false ∧ s = false ∧ s' = true ∧ r = -1) ∨ (d = false ∧ s = true ∧ s' = false ∧ r = 1) ∨ (d = false ∧ s = s' ∧ h < h' ∧ r = -1) ∨ (d = false ∧ s = s' ∧ h' < h ∧ r = 1) ∨ (d = false ∧ s = s' ∧ h = h' ∧ l < l' ∧ r = -1) ∨ (d = false ∧ s = s' ∧ h = h' ∧ l' < l ∧ r = 1) := by
    have hs := HS.out
    by_cases e : (⟨s, h, l⟩ : Ad) = ⟨s', h', l'⟩
    · rw [if_pos e] at hs
      exact .inl ⟨by rw [hd]; exact decide_eq_true e, hs⟩
    · rw [if_neg e] at hs
      have hd' : d = false := by rw [hd]; exact decide_eq_false e
      refine .inr ?_
      by_cases e1 : s = s'
      · subst e1
        refine .inr (.inr ?_)
        rw [lexB, if_pos rfl, lexB] at hs
        rcases Nat.lt_trichotomy h h' with h1 | rfl | h1
        · rw [if_neg (show ¬ ((h : Int) = (h' : Int)) by omega), decide_eq_true (show (h : Int) < (h' : Int) by omega)] at hs
          exact .inl ⟨hd', rfl, h1, hs⟩
        · rw [if_pos rfl, lexB] at hs
          rcases Nat.lt_trichotomy l l' with h2 | rfl | h2
          · rw [if_neg (show ¬ ((l : Int) = (l' : Int)) by omega), decide_eq_true (show (l : Int) < (l' : Int) by omega)] at hs
            exact .inr (.inr (.inl ⟨hd', rfl, rfl, h2, hs⟩))
          · exact absurd rfl e
          · rw [if_neg (show ¬ ((l : Int) = (l' : Int)) by omega), decide_eq_false (show ¬ (l : Int) < (l' : Int) by omega)] at hs
            exact .inr (.inr (.inr ⟨hd', rfl, rfl, h2, hs⟩))
        · rw [if_neg (show ¬ ((h : Int) = (h' : Int)) by omega), decide_eq_false (show ¬ (h : Int) < (h' : Int) by omega)] at hs
          exact .inr (.inl ⟨hd', rfl, h1, hs⟩)
      · cases s <;> cases s'
        · exact absurd rfl e1
        · exact .inl ⟨hd', rfl, rfl, hs⟩
        · exact .inr (.inl ⟨hd', rfl, rfl, hs⟩)
        · exact absurd rfl e1
  clear hd HS
  have HF := Lib.hid (((Fr.refl N0 w).alloc (.cells #[.bool s, .int .u64 (h : Int), .int .u64 (l : Int)] 30)).alloc (.cells #[.bool s', .int .u64 (h' : Int), .int .u64 (l' : Int)] 30))
  rcases hc with ⟨rfl, rfl⟩ | ⟨rfl, rfl, rfl, rfl⟩ | ⟨rfl, rfl, rfl, rfl⟩ | ⟨rfl, rfl, h1, rfl⟩ | ⟨rfl, rfl, h1, rfl⟩ | ⟨rfl, rfl, rfl, h1, rfl⟩ | ⟨rfl, rfl, rfl, h1, rfl⟩
  case inr.inr.inr.inl =>
    have t1 : (h : Int) < (h' : Int) := by omega
    go_enter Tryz.func72, Tryz.ntmps72
    unfold adV
    go_wp2_with fail
    go_ret
    exact ⟨rfl, HF.out⟩
  case inr.inr.inr.inr.inl =>
    have t1 : ¬ (h : Int) < (h' : Int) := by omega
    have t2 : ((h : Int) == (h' : Int)) = false := by rw [beq_eq_false_iff_ne]; omega
    have t3 : ¬ (h : Int) = (h' : Int) := by omega
    go_enter Tryz.func72, Tryz.ntmps72
    unfold adV
    go_wp2_with fail
    go_ret
    exact ⟨rfl, HF.out⟩
  case inr.inr.inr.inr.inr.inl =>
    have t1 : (l : Int) < (l' : Int) := by omega
    go_enter Tryz.func72, Tryz.ntmps72
    unfold adV
    go_wp2_with fail
    go_ret
    exact ⟨rfl, HF.out⟩
  case inr.inr.inr.inr.inr.inr =>
    have t1 : ¬ (l : Int) < (l' : Int) := by omega
    go_enter Tryz.func72, Tryz.ntmps72
    unfold adV
    go_wp2_with fail
    go_ret
    exact ⟨rfl, HF.out⟩
  all_goals
    go_enter Tryz.func72, Tryz.ntmps72
    unfold adV
    go_wp2_with fail
    go_ret
    exact ⟨rfl, HF.out⟩
theorem ahA_bet {p m o p' m' o' : Int} {v v' : Ad} {a a' : Bool} (h1 : distP p = distP p') (h2 : m = m') (h3 : o = o') :
    (ahA v v' = -1 ∧ betP ⟨p, m, v, o, a⟩ ⟨p', m', v', o', a'⟩ = true) ∨ (ahA v v' = 0 ∧ betP ⟨p, m, v, o, a⟩ ⟨p', m', v', o', a'⟩ = (!a && a')) ∨ (ahA v v' = 1 ∧ betP ⟨p, m, v, o, a⟩ ⟨p', m', v', o', a'⟩ = false) := by
  subst h2 h3
  unfold betP keyP
  simp only
  rw [h1, lexB, if_pos rfl, lexB, if_pos rfl, lexB, if_pos rfl]
  by_cases e : v = v'
  · subst e
    refine .inr (.inl ⟨if_pos rfl, ?_⟩)
    rw [lexB, if_pos rfl, lexB, if_pos rfl, lexB, if_pos rfl]
    cases a <;> cases a' <;> simp [lexB, b2i]
  · have hx : ∀ x y : Int, lexB [b2i v.six, v.hi, v.lo, x] [b2i v'.six, v'.hi, v'.lo, y] = lexB [b2i v.six, v.hi, v.lo] [b2i v'.six, v'.hi, v'.lo] := by
      intro x y
      simp only [lexB]
      split
      · split
        · split
          · rename_i k1 k2 k3
            exfalso
            apply e
            obtain ⟨s, h, l⟩ := v
            obtain ⟨s', h', l'⟩ := v'
            simp only at k1 k2 k3
            have : s = s' := by cases s <;> cases s' <;> simp_all [b2i]
            subst this
            obtain rfl : h = h' := by omega
            obtain rfl : l = l' := by omega
            rfl
          · rfl
        · rfl
      · rfl
    rw [hx]
    unfold ahA
    rw [if_neg e]
    cases lexB [b2i v.six, v.hi, v.lo] [b2i v'.six, v'.hi, v'.lo] with
    | true => exact .inl ⟨rfl, rfl⟩
    | false => exact .inr (.inr ⟨rfl, rfl⟩)
set_option maxHeartbeats 3200000 in
set_option maxRecDepth 100000 in
theorem rbet_ (x y : Pa) : Calls Tryz.prog 53 #[paV x, paV y] w fun e w' => e = .returned (.bool (betP x y)) ∧ Fr N0 w w' := by
  have c1 := fun (W : World) => rdst_ (w := W) x.proto
  have c2 := fun (W : World) => rdst_ (w := W) y.proto
  have c3 := fun (W : World) => ahd_ (w := W) x.via y.via
  have HB := Lib.hid (show betP x y = lexB (keyP x) (keyP y) from rfl)
  have HA := Lib.hid (@ahA_bet x.proto x.metric x.port y.proto y.metric y.port x.via y.via x.away y.away)
  obtain ⟨p, m, ⟨s, h, l⟩, o, a⟩ := x
  obtain ⟨p', m', ⟨s', h', l'⟩, o', a'⟩ := y
  unfold keyP at HB
  unfold adV at c3
  simp only at *
  obtain ⟨d, hd1⟩ : ∃ d, d = distP p := ⟨_, rfl⟩
  obtain ⟨d', hd2⟩ : ∃ d, d = distP p' := ⟨_, rfl⟩
  rw [← hd1] at c1 HB HA
  rw [← hd2] at c2 HB HA
  generalize ahA _ _ = q at *
  generalize betP _ _ = r at *
  clear hd1 hd2
  go_enter Tryz.func53, Tryz.ntmps53
  unfold paV
  go_wp2_with fail
  have HA1 := Lib.hid ((Blk.new w 34 #[Value.int .i64 p, Value.int .i64 m, Value.bool s, Value.int .u64 (h : Int), Value.int .u64 (l : Int), Value.int .i64 o, Value.bool a]).alloc (.cells #[Value.int .i64 p', Value.int .i64 m', Value.bool s', Value.int .u64 (h' : Int), Value.int .u64 (l' : Int), Value.int .i64 o', Value.bool a'] 34))
  have HA2 := Lib.hid (Blk.alloc2 w (.cells #[Value.int .i64 p, Value.int .i64 m, Value.bool s, Value.int .u64 (h : Int), Value.int .u64 (l : Int), Value.int .i64 o, Value.bool a] 34) 34 #[Value.int .i64 p', Value.int .i64 m', Value.bool s', Value.int .u64 (h' : Int), Value.int .u64 (l' : Int), Value.int .i64 o', Value.bool a'])
  have HF1 := Lib.hid (Fr.alloc (Fr.alloc (Fr.refl N0 w) (.cells #[Value.int .i64 p, Value.int .i64 m, Value.bool s, Value.int .u64 (h : Int), Value.int .u64 (l : Int), Value.int .i64 o, Value.bool a] 34)) (.cells #[Value.int .i64 p', Value.int .i64 m', Value.bool s', Value.int .u64 (h' : Int), Value.int .u64 (l' : Int), Value.int .i64 o', Value.bool a'] 34))
  generalize World.alloc (w.alloc _) _ = w1 at *
  obtain ⟨g2, hg2⟩ : ∃ g2, g2 = w.heap.size + 1 := ⟨_, rfl⟩
  rw [← hg2] at HA2 ⊢
  have HG2 : Hid (w.heap.size ≤ g2) := Lib.hid (by omega)
  obtain ⟨g1, hg1⟩ : ∃ g1, g1 = w.heap.size := ⟨_, rfl⟩
  rw [← hg1] at HA1 ⊢
  have HG1 : Hid (w.heap.size ≤ g1) := Lib.hid (by omega)
  have HN1_2 : Hid (g1 ≠ g2) := Lib.hid (by omega)
  clear hg1 hg2
  have HZ1 : Hid (∀ W, Fr N0 w1 W → Blk W g1 34 #[Value.int .i64 p, Value.int .i64 m, Value.bool s, Value.int .u64 (h : Int), Value.int .u64 (l : Int), Value.int .i64 o, Value.bool a]) := Lib.hid fun W hf => HA1.out.fr hf id
  have HZ2 : Hid (∀ W, Fr N0 w1 W → Blk W g2 34 #[Value.int .i64 p', Value.int .i64 m', Value.bool s', Value.int .u64 (h' : Int), Value.int .u64 (l' : Int), Value.int .i64 o', Value.bool a']) := Lib.hid fun W hf => HA2.out.fr hf id
  have F := Lib.hid (Fr.refl N0 w1)
  have z1_0 := fun x : Fam w1 => (HZ1.out x.w x.fr).c7.1
  have z1_1 := fun x : Fam w1 => (HZ1.out x.w x.fr).c7.2.1
  have z1_2 := fun x : Fam w1 => (HZ1.out x.w x.fr).c7.2.2.1
  have z1_3 := fun x : Fam w1 => (HZ1.out x.w x.fr).c7.2.2.2.1
  have z1_4 := fun x : Fam w1 => (HZ1.out x.w x.fr).c7.2.2.2.2.1
  have z1_5 := fun x : Fam w1 => (HZ1.out x.w x.fr).c7.2.2.2.2.2.1
  have z1_6 := fun x : Fam w1 => (HZ1.out x.w x.fr).c7.2.2.2.2.2.2
  have z2_0 := fun x : Fam w1 => (HZ2.out x.w x.fr).c7.1
  have z2_1 := fun x : Fam w1 => (HZ2.out x.w x.fr).c7.2.1
  have z2_2 := fun x : Fam w1 => (HZ2.out x.w x.fr).c7.2.2.1
  have z2_3 := fun x : Fam w1 => (HZ2.out x.w x.fr).c7.2.2.2.1
  have z2_4 := fun x : Fam w1 => (HZ2.out x.w x.fr).c7.2.2.2.2.1
  have z2_5 := fun x : Fam w1 => (HZ2.out x.w x.fr).c7.2.2.2.2.2.1
  have z2_6 := fun x : Fam w1 => (HZ2.out x.w x.fr).c7.2.2.2.2.2.2
  have q1 := fun x : Fam w1 => c1 x.w
  have q2 := fun x : Fam w1 => c2 x.w
  refine wp_region_fam (by kernel_rfl) (by kernel_rfl) ?_
  repeat (go_big_quiet_step ((first
    | (go_at_call_of 71 p; exact fam_call (q1 _))
    | (go_at_call_of 71 p'; exact fam_call (q2 _)))))
  first | refine wpQuiet_nil ?_ | (go_big_quiet_want; go_big_quiet_op; done)
  rintro _ ⟨xq, rfl⟩
  have HF2 := Lib.hid (HF1.out.trans xq.fr)
  have hc : d ≠ d' ∨ (d = d' ∧ m ≠ m') ∨ (d = d' ∧ m = m' ∧ o ≠ o') ∨ (d = d' ∧ m = m' ∧ o = o') := by
    by_cases e1 : d = d' <;> by_cases e2 : m = m' <;> by_cases e3 : o = o' <;> simp [e1, e2, e3]
  rcases hc with e | ⟨rfl, e⟩ | ⟨rfl, rfl, e⟩ | ⟨rfl, rfl, rfl⟩
  · have t1 : (d != d') = true := by simpa using e
    have t2 : (d == d') = false := by simpa using e
    have HR := Lib.hid (show r = decide (d < d') by rw [HB.out, lexB, if_neg e])
    clear HA HB
    go_wp2_with fail
    have q1 := fun x : Fam xq.w => c1 x.w
    have q2 := fun x : Fam xq.w => c2 x.w
    have z1_0 := fun x : Fam xq.w => (HZ1.out _ (xq.fr.trans x.fr)).c7.1
    have z2_0 := fun x : Fam xq.w => (HZ2.out _ (xq.fr.trans x.fr)).c7.1
    refine wp_region_fam (by kernel_rfl) (by kernel_rfl) ?_
    repeat (go_big_quiet_step ((first
      | (go_at_call_of 71 p; exact fam_call (q1 _))
      | (go_at_call_of 71 p'; exact fam_call (q2 _)))))
    first | refine wpQuiet_nil ?_ | (go_big_quiet_want; go_big_quiet_op; done)
    rintro _ ⟨xr, rfl⟩
    go_wp2_with fail
    go_ret
    exact ⟨retb HR.out.symm, HF2.out.trans xr.fr⟩
  · have t1 : (m != m') = true := by simpa using e
    have t2 : (m == m') = false := by simpa using e
    have HR := Lib.hid (show r = decide (m < m') by rw [HB.out, lexB, if_pos rfl, lexB, if_neg e])
    clear HA HB
    go_wp2_with fail
    go_ret
    exact ⟨retb HR.out.symm, HF2.out⟩
  · have t1 : (o != o') = true := by simpa using e
    have t2 : (o == o') = false := by simpa using e
    have HR := Lib.hid (show r = decide (o < o') by rw [HB.out, lexB, if_pos rfl, lexB, if_pos rfl, lexB, if_neg e])
    clear HA HB
    go_wp2_with fail
    go_ret
    exact ⟨retb HR.out.symm, HF2.out⟩
  · have ha := HA.out rfl rfl rfl
    clear HA HB
    rcases ha with ⟨rfl, hr⟩ | ⟨rfl, hr⟩ | ⟨rfl, hr⟩
    all_goals
      have HR := Lib.hid hr
      clear hr
      go_wp2_with fail
      refine (c3 _).mono ?_
      rintro e w3 ⟨rfl, hf⟩
      have HF3 := Lib.hid (HF2.out.trans hf)
      obtain ⟨y0, y1, y2, y3, y4, y5, y6⟩ := (HZ1.out _ (xq.fr.trans hf)).c7
      obtain ⟨x0, x1, x2, x3, x4, x5, x6⟩ := (HZ2.out _ (xq.fr.trans hf)).c7
      try cases a
      all_goals try cases a'
      all_goals
        go_wp2_with fail
        go_ret
        exact ⟨retb HR.out.symm, HF3.out⟩
end
end Go.Proofs.YtnklbeigikcfkaaGreatDoor
namespace Go.Proofs.YtnklbeigikcfkaaGreatDoor
open Go.Proofs Go.RowKit Go.Shelf
def tenP : Px := ⟨⟨false, 0, 167772160⟩, 8⟩
def byA (n : Nat) : Ad := ⟨false, 0, 168361984 + n⟩
section
variable {w : World}
set_option maxHeartbeats 1600000 in
set_option maxRecDepth 100000 in
theorem ten_ : Calls Tryz.prog 18 #[] w fun e w' => e = .returned (pxV tenP) ∧ Fr N0 w w' := by
  go_enter Tryz.func18, Tryz.ntmps18
  have HA := Lib.hid (Blk.new w 32 #[.bool false, .int .u64 0, .int .u64 0, .int .i64 0])
  have HF := Lib.hid ((Fr.refl N0 w).alloc (.cells #[.bool false, .int .u64 0, .int .u64 0, .int .i64 0] 32))
  go_wp2_with (refine wpList_store_row rfl 32 _ _ rfl w.heap.size _ rfl rfl _ _ HA.out rfl rfl (by simp [Value.oneCell']) ?_)
  refine ret_cell rfl rfl (HA.out.row _) Tryz.underlying32 rfl ⟨rfl, Fr.setRow HF.out (.inr (Nat.le_refl _)) _⟩
set_option maxHeartbeats 1600000 in
set_option maxRecDepth 100000 in
theorem by_ (n : Nat) (hn : n < 1000) : Calls Tryz.prog 16 #[.int .u64 (n : Int)] w fun e w' => e = .returned (adV (byA n)) ∧ Fr N0 w w' := by
  have hw : IntKind.u64.wrap (168361984 + (n : Int)) = 168361984 + (n : Int) := IntWalk.u64_in _ (by omega)
  go_enter Tryz.func16, Tryz.ntmps16
  have HA := Lib.hid (Blk.new w 30 #[.bool false, .int .u64 0, .int .u64 0])
  have HF := Lib.hid ((Fr.refl N0 w).alloc (.cells #[.bool false, .int .u64 0, .int .u64 0] 30))
  go_wp2_with (refine wpList_store_row rfl 30 _ _ rfl w.heap.size _ rfl rfl _ _ HA.out rfl rfl (by simp [Value.oneCell']) ?_)
  refine ret_cell rfl rfl (HA.out.row _) Tryz.underlying30 rfl ⟨rfl, Fr.setRow HF.out (.inr (Nat.le_refl _)) _⟩
end
/-- What the listed variable holds. -/
theorem dst_of {W : World} {l : List (String × DataW Unit)} (hl : l.filter (fun x => x.1 == "crossway/rib.distances") = [("crossway/rib.distances", Lib.tabData .i64 [0, 1, 20, 110, 120])]) (h : laidMetH Tryz.prog l W) : Dst W := by
  have h2 := h.filter fun x => x.1 == "crossway/rib.distances"
  rw [hl, MakeChecks.laidMetH_plain _ _ _ (by rfl)] at h2
  have h3 := Lib.tabIs_of_head (g := 0) (t := 99) (n := 5) (by kernel_rfl) (by kernel_rfl) (by kernel_rfl) Tryz.underlying3 (by kernel_rfl) (by kernel_rfl) h2
  intro i hi
  have hg : Tryz.prog.globalNamed "crossway/rib.distances" = some 0 := by kernel_rfl
  rw [h3.cell hg i (by exact hi)]
  have : i = 0 ∨ i = 1 ∨ i = 2 ∨ i = 3 ∨ i = 4 := by omega
  rcases this with rfl | rfl | rfl | rfl | rfl <;> rfl
set_option maxRecDepth 100000 in
theorem rd_ad {W : World} {cs : List Value} (h : Rd Tryz.prog W 30 cs) : ∃ a : Ad, cs = [.bool a.six, .int .u64 (a.hi : Int), .int .u64 (a.lo : Int)] ∧ a.ok := by
  obtain ⟨hl, hf⟩ := Rd.struct_ Tryz.underlying30 h
  rw [show Tryz.prog.cellsOf 30 = 3 by kernel_rfl] at hl
  match cs, hl with
  | [x, y, z], _ =>
    have h0 : Rd Tryz.prog W 4 (([x, y, z].drop 0).take (Tryz.prog.cellsOf 4)) := hf 0 _ rfl
    have h1 : Rd Tryz.prog W 28 (([x, y, z].drop 1).take (Tryz.prog.cellsOf 28)) := hf 1 _ rfl
    have h2 : Rd Tryz.prog W 28 (([x, y, z].drop 2).take (Tryz.prog.cellsOf 28)) := hf 2 _ rfl
    rw [show Tryz.prog.cellsOf 4 = 1 by kernel_rfl] at h0
    rw [show Tryz.prog.cellsOf 28 = 1 by kernel_rfl] at h1 h2
    obtain ⟨s, e0⟩ := Rd.bool_ Tryz.underlying4 h0
    obtain ⟨hi, e1, b1⟩ := Rd.u64_ Tryz.underlying28 h1
    obtain ⟨lo, e2, b2⟩ := Rd.u64_ Tryz.underlying28 h2
    simp at e0 e1 e2
    subst e0 e1 e2
    exact ⟨⟨s, hi, lo⟩, rfl, b1, b2⟩
set_option maxRecDepth 100000 in
theorem rd_px {W : World} {cs : List Value} (h : Rd Tryz.prog W 32 cs) : ∃ p : Px, cs = Px.cs p ∧ p.ok := by
  obtain ⟨hl, hf⟩ := Rd.struct_ Tryz.underlying32 h
  rw [show Tryz.prog.cellsOf 32 = 4 by kernel_rfl] at hl
  match cs, hl with
  | [x, y, z, t], _ =>
    have h0 : Rd Tryz.prog W 30 (([x, y, z, t].drop 0).take (Tryz.prog.cellsOf 30)) := hf 0 _ rfl
    have h1 : Rd Tryz.prog W 3 (([x, y, z, t].drop 3).take (Tryz.prog.cellsOf 3)) := hf 1 _ rfl
    rw [show Tryz.prog.cellsOf 30 = 3 by kernel_rfl] at h0
    rw [show Tryz.prog.cellsOf 3 = 1 by kernel_rfl] at h1
    obtain ⟨a, e0, o0⟩ := rd_ad h0
    obtain ⟨m, e1, b1, b2⟩ := Rd.i64_ Tryz.underlying3 h1
    simp at e0 e1
    obtain ⟨rfl, rfl, rfl⟩ := e0
    subst e1
    exact ⟨⟨a, m⟩, rfl, o0, b1, b2⟩
set_option maxRecDepth 100000 in
theorem rd_pa {W : World} {cs : List Value} (h : Rd Tryz.prog W 34 cs) : ∃ p : Pa, cs = Pa.cs p ∧ p.ok := by
  obtain ⟨hl, hf⟩ := Rd.struct_ Tryz.underlying34 h
  rw [show Tryz.prog.cellsOf 34 = 7 by kernel_rfl] at hl
  match cs, hl with
  | [x, y, z, t, u, v, q], _ =>
    have h0 : Rd Tryz.prog W 3 (([x, y, z, t, u, v, q].drop 0).take (Tryz.prog.cellsOf 3)) := hf 0 _ rfl
    have h1 : Rd Tryz.prog W 3 (([x, y, z, t, u, v, q].drop 1).take (Tryz.prog.cellsOf 3)) := hf 1 _ rfl
    have h2 : Rd Tryz.prog W 30 (([x, y, z, t, u, v, q].drop 2).take (Tryz.prog.cellsOf 30)) := hf 2 _ rfl
    have h3 : Rd Tryz.prog W 3 (([x, y, z, t, u, v, q].drop 5).take (Tryz.prog.cellsOf 3)) := hf 3 _ rfl
    have h4 : Rd Tryz.prog W 4 (([x, y, z, t, u, v, q].drop 6).take (Tryz.prog.cellsOf 4)) := hf 4 _ rfl
    rw [show Tryz.prog.cellsOf 30 = 3 by kernel_rfl] at h2
    rw [show Tryz.prog.cellsOf 3 = 1 by kernel_rfl] at h0 h1 h3
    rw [show Tryz.prog.cellsOf 4 = 1 by kernel_rfl] at h4
    obtain ⟨a, e2, o2⟩ := rd_ad h2
    obtain ⟨m0, e0, b01, b02⟩ := Rd.i64_ Tryz.underlying3 h0
    obtain ⟨m1, e1, b11, b12⟩ := Rd.i64_ Tryz.underlying3 h1
    obtain ⟨m3, e3, b31, b32⟩ := Rd.i64_ Tryz.underlying3 h3
    obtain ⟨b, e4⟩ := Rd.bool_ Tryz.underlying4 h4
    simp at e0 e1 e2 e3 e4
    obtain ⟨rfl, rfl, rfl⟩ := e2
    subst e0 e1 e3 e4
    exact ⟨⟨m0, m1, a, m3, b⟩, rfl, ⟨⟨b01, b02⟩, ⟨b11, b12⟩, o2, ⟨b31, b32⟩⟩⟩
/-- A step: what, a prefix, a path. -/
structure St where
  what : Int
  p : Px
  x : Pa
def St.cs (s : St) : List Value := .int .i64 s.what :: (Px.cs s.p ++ Pa.cs s.x)
structure St.ok (s : St) : Prop where
  what : I64 s.what
  p : s.p.ok
  x : s.x.ok
set_option maxRecDepth 100000 in
theorem rd_st {W : World} {cs : List Value} (h : Rd Tryz.prog W 36 cs) : ∃ s : St, cs = St.cs s ∧ s.ok := by
  obtain ⟨hl, hf⟩ := Rd.struct_ Tryz.underlying36 h
  rw [show Tryz.prog.cellsOf 36 = 12 by kernel_rfl] at hl
  have h0 : Rd Tryz.prog W 3 ((cs.drop 0).take (Tryz.prog.cellsOf 3)) := hf 0 _ rfl
  have h1 : Rd Tryz.prog W 32 ((cs.drop 1).take (Tryz.prog.cellsOf 32)) := hf 1 _ rfl
  have h2 : Rd Tryz.prog W 34 ((cs.drop 5).take (Tryz.prog.cellsOf 34)) := hf 2 _ rfl
  rw [show Tryz.prog.cellsOf 32 = 4 by kernel_rfl] at h1
  rw [show Tryz.prog.cellsOf 34 = 7 by kernel_rfl] at h2
  rw [show Tryz.prog.cellsOf 3 = 1 by kernel_rfl] at h0
  obtain ⟨m0, e0, b0⟩ := Rd.i64_ Tryz.underlying3 h0
  obtain ⟨p, e1, hp⟩ := rd_px h1
  obtain ⟨x, e2, hx⟩ := rd_pa h2
  refine ⟨⟨m0, p, x⟩, ?_, b0, hp, hx⟩
  match cs, hl with
  | [a, b, c, d, e, f, g, i, j, k, l, m], _ =>
    simp [Px.cs, Pa.cs] at e0 e1 e2
    obtain ⟨rfl, rfl, rfl, rfl⟩ := e1
    obtain ⟨rfl, rfl, rfl, rfl, rfl, rfl, rfl⟩ := e2
    subst e0
    rfl
/-- The steps that came in. -/
def StIn (w : World) (A : Option Addr) (l : List St) : Prop :=
  l ≠ [] → ∃ b off, A = some ⟨b, off, none⟩ ∧ b < w.heap.size ∧ ∀ i s, l[i]? = some s → s.ok ∧ ∀ j v, (St.cs s)[j]? = some v → w.cell? ⟨b, off + (i * 12 + j), none⟩ = some v
theorem list_of {α : Type} {P : Nat → α → Prop} : ∀ n : Nat, (∀ i, i < n → ∃ s, P i s) → ∃ l : List α, l.length = n ∧ ∀ i s, l[i]? = some s → P i s
  | 0, _ => ⟨[], rfl, fun i s h => by simp at h⟩
  | n + 1, h => by
    obtain ⟨l, hl, hP⟩ := list_of n fun i hi => h i (by omega)
    obtain ⟨s, hs⟩ := h n (by omega)
    refine ⟨l ++ [s], by simp [hl], fun i t ht => ?_⟩
    by_cases hi : i < n
    · rw [List.getElem?_append_left (by omega)] at ht
      exact hP i t ht
    · rw [List.getElem?_append_right (by omega)] at ht
      obtain ⟨j, hj⟩ : ∃ j, j = i - l.length := ⟨_, rfl⟩
      rw [← hj] at ht
      cases j with
      | zero =>
        simp at ht
        obtain rfl : i = n := by omega
        exact ht ▸ hs
      | succ j => simp at ht
theorem steps_in {w : World} {A : Option Addr} {n c : Nat} (h : Rd Tryz.prog w 22 [.slice A n c]) : ∃ l : List St, l.length = n ∧ StIn w A l ∧ n ≤ 9223372036854775807 := by
  obtain ⟨A', n', c', hc, hlc, hcm, _, hr⟩ := h.slice_ Tryz.underlying22 (by rw [show Tryz.prog.cellsOf 36 = 12 by kernel_rfl]; omega)
  simp at hc
  obtain ⟨rfl, rfl, rfl⟩ := hc
  rw [show Tryz.prog.cellsOf 36 = 12 by kernel_rfl] at hr
  by_cases hn : 0 < n
  · obtain ⟨b, off, rfl, hb, hi⟩ := hr hn
    obtain ⟨l, hl, hP⟩ := list_of (P := fun i s => s.ok ∧ ∀ j v, (St.cs s)[j]? = some v → w.cell? ⟨b, off + (i * 12 + j), none⟩ = some v) n fun i hil => by
      obtain ⟨cs, _, hcell, hrd⟩ := hi i hil
      obtain ⟨s, rfl, hs⟩ := rd_st hrd
      exact ⟨s, hs, hcell⟩
    exact ⟨l, hl, fun _ => ⟨b, off, rfl, hb, hP⟩, by omega⟩
  · exact ⟨[], by simp; omega, fun h => absurd rfl h, by omega⟩
theorem StIn.below {w w' : World} {A : Option Addr} {l : List St} (h : StIn w A l) (hb : Below w.heap.size w w') : StIn w' A l := by
  intro hl
  obtain ⟨b, off, hA, hlt, hi⟩ := h hl
  exact ⟨b, off, hA, Nat.lt_of_lt_of_le hlt hb.size, fun i s his => ⟨(hi i s his).1, fun j v hv => (hb.cell hlt).trans ((hi i s his).2 j v hv)⟩⟩
end Go.Proofs.YtnklbeigikcfkaaGreatDoor
namespace Go.Proofs.YtnklbeigikcfkaaGreatDoor
open Go.Proofs Go.RowKit
theorem neql_pa (x y : Pa) (w : World) : (binOp .neq 34 (paV x) (paV y)).run Tryz.prog w = .ok (.bool (!decide (x = y))) w := by
  have h := eql_pa x y w
  unfold paV at *
  rw [run_eql_struct] at h
  rw [run_neq_struct]
  revert h
  generalize (Op.equalIn 10000 _ _ _).run Tryz.prog w = r
  intro h
  cases r with
  | ok b w' => simp only [Result.andThen_ok, Result.ok.injEq, Value.bool.injEq] at h ⊢; obtain ⟨rfl, rfl⟩ := h; exact ⟨rfl, rfl⟩
  | halt x w' => simp [Result.andThen] at h
theorem nguard_pa (X Y : Operand) (x y : Pa) (w : World) : (eqGuard .neq 34 X Y (paV x) (paV y)).run Tryz.prog w = .ok () w :=
  run_eqGuard_agg w .neq _ X Y _ _ (by kernel_rfl)
theorem neql_px (x y : Px) (w : World) : (binOp .neq 32 (pxV x) (pxV y)).run Tryz.prog w = .ok (.bool (!decide (x = y))) w := by
  have h := eql_px x y w
  unfold pxV at *
  rw [run_eql_struct] at h
  rw [run_neq_struct]
  revert h
  generalize (Op.equalIn 10000 _ _ _).run Tryz.prog w = r
  intro h
  cases r with
  | ok b w' => simp only [Result.andThen_ok, Result.ok.injEq, Value.bool.injEq] at h ⊢; obtain ⟨rfl, rfl⟩ := h; exact ⟨rfl, rfl⟩
  | halt x w' => simp [Result.andThen] at h
theorem nguard_px (X Y : Operand) (x y : Px) (w : World) : (eqGuard .neq 32 X Y (pxV x) (pxV y)).run Tryz.prog w = .ok () w :=
  run_eqGuard_agg w .neq _ X Y _ _ (by kernel_rfl)
section
variable {w : World}
set_option maxHeartbeats 3200000 in
set_option maxRecDepth 100000 in
theorem same_pa (A A' : Option Addr) (n c n' c' : Nat) (l l' : List Pa) (ho : Own w 34 7 A n c (flat l)) (hn : l.length = n) (ho' : Own w 34 7 A' n' c' (flat l')) (hn' : l'.length = n') (hb : n ≤ 1000000) :
    Calls Tryz.prog 23 #[.slice A n c, .slice A' n' c'] w fun e w' => e = .returned (.bool (decide (l = l'))) ∧ Fr N0 w w' := by
  obtain ⟨r, hr⟩ : ∃ r, r = decide (l = l') := ⟨_, rfl⟩
  rw [← hr]
  have HR := Lib.hid hr
  have HO := Lib.hid ho
  have HO' := Lib.hid ho'
  have HN := Lib.hid hn
  have HN' := Lib.hid hn'
  clear ho ho' hn hn' hr
  by_cases hnn : n = n'
  · subst hnn
    go_enter Tryz.func23, Tryz.ntmps23
    go_wp2_with fail
    go_loopw [5] (fun vi wr => ∃ j : Nat, j ≤ n ∧ vi = .int .i64 (j : Int) ∧ Fr N0 w wr ∧ ∀ i, i < j → l[i]? = l'[i]?) (fun vi _ => n + 1 - (intOf vi).toNat)
    case atStart => exact ⟨0, Nat.zero_le _, rfl, Fr.refl _ _, fun i hi => absurd hi (by omega)⟩
    case round =>
      obtain ⟨j, hj, rfl, hF, hE⟩ := hrel
      have HF := Lib.hid hF
      have HE := Lib.hid hE
      clear hF hE
      by_cases hjn : j < n
      · have ho := HO.out.fr HF.out fun _ _ => id
        have ho' := HO'.out.fr HF.out fun _ _ => id
        obtain ⟨g, rfl⟩ := ho.some_ (by omega)
        obtain ⟨g', rfl⟩ := ho'.some_ (by omega)
        obtain ⟨u, hu⟩ : ∃ u, l[j]? = some u := ⟨_, List.getElem?_eq_getElem (by have := HN.out; omega)⟩
        obtain ⟨v, hv⟩ : ∃ u, l'[j]? = some u := ⟨_, List.getElem?_eq_getElem (by have := HN'.out; omega)⟩
        obtain ⟨g0, g1, g2, g3, g4, g5, g6⟩ := ho.e7 HN.out hu
        obtain ⟨y0, y1, y2, y3, y4, y5, y6⟩ := ho'.e7 HN'.out hv
        have HU := Lib.hid hu
        have HV := Lib.hid hv
        have hjI : (j : Int) < (n : Int) := by omega
        clear hu hv ho ho'
        by_cases huv : u = v
        · have E := fun W => neql_pa u v W
          have EG := fun X Y W => nguard_pa X Y u v W
          rw [decide_eq_true huv] at E
          unfold paV at E EG
          have HUV := Lib.hid huv
          clear huv
          go_wp2_with fail
          go_region
          go_wp2_with fail
          go_roundw
          case rel =>
            refine ⟨j + 1, by omega, by go_num, HF.out.drew, fun i hi => ?_⟩
            rcases Nat.lt_or_ge i j with h | h
            · exact HE.out i h
            · obtain rfl : i = j := by omega
              rw [HU.out, HV.out, HUV.out]
          case measure => simp [intOf]; omega
        · have E := fun W => neql_pa u v W
          have EG := fun X Y W => nguard_pa X Y u v W
          rw [decide_eq_false huv] at E
          unfold paV at E EG
          have HRR := Lib.hid (show r = false by
            rw [HR.out]
            refine decide_eq_false fun e => huv ?_
            have := HU.out.symm.trans ((congrArg (·[j]?) e).trans HV.out)
            exact Option.some.inj this)
          clear huv
          go_wp2_with fail
          go_region
          go_wp2_with fail
          go_ret
          exact ⟨retb HRR.out.symm, HF.out.drew⟩
      · have HRR := Lib.hid (show r = true by
          rw [HR.out]
          refine decide_eq_true (List.ext_getElem? fun i => ?_)
          rcases Nat.lt_or_ge i j with h | h
          · exact HE.out i h
          · rw [List.getElem?_eq_none (by have := HN.out; omega), List.getElem?_eq_none (by have := HN'.out; omega)])
        have hjI : ¬ ((j : Int) < (n : Int)) := by omega
        go_wp2_with fail
        go_ret
        exact ⟨retb HRR.out.symm, HF.out⟩
  · have HRR := Lib.hid (show r = false by
      rw [HR.out]
      refine decide_eq_false fun e => hnn ?_
      rw [← HN.out, ← HN'.out, e])
    have t1 : ((n : Int) != (n' : Int)) = true := by rw [bne_iff_ne]; omega
    have t2 : ((n : Int) == (n' : Int)) = false := by rw [beq_eq_false_iff_ne]; omega
    go_enter Tryz.func23, Tryz.ntmps23
    go_wp2_with fail
    go_ret
    exact ⟨retb HRR.out.symm, Fr.refl _ _⟩
set_option maxHeartbeats 3200000 in
set_option maxRecDepth 100000 in
theorem same_px (A A' : Option Addr) (n c n' c' : Nat) (l l' : List Px) (ho : Own w 32 4 A n c (flat l)) (hn : l.length = n) (ho' : Own w 32 4 A' n' c' (flat l')) (hn' : l'.length = n') (hb : n ≤ 1000000) :
    Calls Tryz.prog 30 #[.slice A n c, .slice A' n' c'] w fun e w' => e = .returned (.bool (decide (l = l'))) ∧ Fr N0 w w' := by
  obtain ⟨r, hr⟩ : ∃ r, r = decide (l = l') := ⟨_, rfl⟩
  rw [← hr]
  have HR := Lib.hid hr
  have HO := Lib.hid ho
  have HO' := Lib.hid ho'
  have HN := Lib.hid hn
  have HN' := Lib.hid hn'
  clear ho ho' hn hn' hr
  by_cases hnn : n = n'
  · subst hnn
    go_enter Tryz.func30, Tryz.ntmps30
    go_wp2_with fail
    go_loopw [5] (fun vi wr => ∃ j : Nat, j ≤ n ∧ vi = .int .i64 (j : Int) ∧ Fr N0 w wr ∧ ∀ i, i < j → l[i]? = l'[i]?) (fun vi _ => n + 1 - (intOf vi).toNat)
    case atStart => exact ⟨0, Nat.zero_le _, rfl, Fr.refl _ _, fun i hi => absurd hi (by omega)⟩
    case round =>
      obtain ⟨j, hj, rfl, hF, hE⟩ := hrel
      have HF := Lib.hid hF
      have HE := Lib.hid hE
      clear hF hE
      by_cases hjn : j < n
      · have ho := HO.out.fr HF.out fun _ _ => id
        have ho' := HO'.out.fr HF.out fun _ _ => id
        obtain ⟨g, rfl⟩ := ho.some_ (by omega)
        obtain ⟨g', rfl⟩ := ho'.some_ (by omega)
        obtain ⟨u, hu⟩ : ∃ u, l[j]? = some u := ⟨_, List.getElem?_eq_getElem (by have := HN.out; omega)⟩
        obtain ⟨v, hv⟩ : ∃ u, l'[j]? = some u := ⟨_, List.getElem?_eq_getElem (by have := HN'.out; omega)⟩
        obtain ⟨g0, g1, g2, g3⟩ := ho.e4 HN.out hu
        obtain ⟨y0, y1, y2, y3⟩ := ho'.e4 HN'.out hv
        have HU := Lib.hid hu
        have HV := Lib.hid hv
        have hjI : (j : Int) < (n : Int) := by omega
        clear hu hv ho ho'
        by_cases huv : u = v
        · have E := fun W => neql_px u v W
          have EG := fun X Y W => nguard_px X Y u v W
          rw [decide_eq_true huv] at E
          unfold pxV at E EG
          have HUV := Lib.hid huv
          clear huv
          go_wp2_with fail
          go_region
          go_wp2_with fail
          go_roundw
          case rel =>
            refine ⟨j + 1, by omega, by go_num, HF.out.drew, fun i hi => ?_⟩
            rcases Nat.lt_or_ge i j with h | h
            · exact HE.out i h
            · obtain rfl : i = j := by omega
              rw [HU.out, HV.out, HUV.out]
          case measure => simp [intOf]; omega
        · have E := fun W => neql_px u v W
          have EG := fun X Y W => nguard_px X Y u v W
          rw [decide_eq_false huv] at E
          unfold pxV at E EG
          have HRR := Lib.hid (show r = false by
            rw [HR.out]
            refine decide_eq_false fun e => huv ?_
            have := HU.out.symm.trans ((congrArg (·[j]?) e).trans HV.out)
            exact Option.some.inj this)
          clear huv
          go_wp2_with fail
          go_region
          go_wp2_with fail
          go_ret
          exact ⟨retb HRR.out.symm, HF.out.drew⟩
      · have HRR := Lib.hid (show r = true by
          rw [HR.out]
          refine decide_eq_true (List.ext_getElem? fun i => ?_)
          rcases Nat.lt_or_ge i j with h | h
          · exact HE.out i h
          · rw [List.getElem?_eq_none (by have := HN.out; omega), List.getElem?_eq_none (by have := HN'.out; omega)])
        have hjI : ¬ ((j : Int) < (n : Int)) := by omega
        go_wp2_with fail
        go_ret
        exact ⟨retb HRR.out.symm, HF.out⟩
  · have HRR := Lib.hid (show r = false by
      rw [HR.out]
      refine decide_eq_false fun e => hnn ?_
      rw [← HN.out, ← HN'.out, e])
    have t1 : ((n : Int) != (n' : Int)) = true := by rw [bne_iff_ne]; omega
    have t2 : ((n : Int) == (n' : Int)) = false := by rw [beq_eq_false_iff_ne]; omega
    go_enter Tryz.func30, Tryz.ntmps30
    go_wp2_with fail
    go_ret
    exact ⟨retb HRR.out.symm, Fr.refl _ _⟩
end
end Go.Proofs.YtnklbeigikcfkaaGreatDoor
namespace Go.Proofs.YtnklbeigikcfkaaGreatDoor
open Go.Proofs Go.RowKit
/-- A rib laid since w, apart from the blocks of N. -/
structure RB (w wr : World) (r : Nat) (N : Nat → Prop) (L : List Td) : Prop where
  rib : ∃ F, RibIs wr r F L ∧ (∀ i, F i → w.heap.size ≤ i) ∧ ∀ i, N i → ¬ F i
  fr : Fr N0 w wr
  lt : ∀ i, N i → i < wr.heap.size
section
variable {w wr w' : World} {r : Nat} {N : Nat → Prop} {L L' : List Td}
theorem RB.n0 (h : RB w wr r N L) (hf : Fr N0 wr w') : RB w w' r N L := by
  obtain ⟨F, h1, h2, h3⟩ := h.rib
  exact ⟨⟨F, h1.n0 hf, h2, h3⟩, h.fr.trans hf, fun i hi => Nat.lt_of_lt_of_le (h.lt i hi) hf.size⟩
theorem RB.row (h : RB w wr r N L) : RowT clsA L := h.rib.choose_spec.1.row
theorem RB.more {M : Nat → Prop} (h : RB w wr r N L) (hf : Fr N0 wr w') (hM : ∀ i, M i → N i ∨ (wr.heap.size ≤ i ∧ i < w'.heap.size)) : RB w w' r M L := by
  obtain ⟨F, h1, h2, h3⟩ := h.rib
  refine ⟨⟨F, h1.n0 hf, h2, fun i hi hF => ?_⟩, h.fr.trans hf, fun i hi => ?_⟩
  · rcases hM i hi with k | k
    · exact h3 i k hF
    · have := h1.lt i hF
      omega
  · rcases hM i hi with k | k
    · exact Nat.lt_of_lt_of_le (h.lt i k) hf.size
    · exact k.2
/-- What a call on it leaves. -/
def RBTo (w wr : World) (r : Nat) (N : Nat → Prop) (L : List Td) (w' : World) : Prop := RB w w' r N L ∧ Fr (fun i => w.heap.size ≤ i ∧ ¬ N i) wr w'
theorem RB.to {F : Nat → Prop} (hf : Fr N0 w wr) (hlt : ∀ i, N i → i < wr.heap.size) (h2 : ∀ i, F i → w.heap.size ≤ i) (h3 : ∀ i, N i → ¬ F i) (h : RibTo wr r F L' w') : RBTo w wr r N L' w' := by
  obtain ⟨F', h4, h5, h6⟩ := h
  refine ⟨⟨⟨F', h4, fun i hi => ?_, fun i hi hF => ?_⟩, hf.step h6 fun i hi => .inr (h2 i hi), fun i hi => Nat.lt_of_lt_of_le (hlt i hi) h6.size⟩, h6.mono fun i _ hi => ⟨h2 i hi, fun k => h3 i k hi⟩⟩
  · rcases h5 i hi with k | k
    · exact h2 i k
    · exact Nat.le_trans hf.size k
  · rcases h5 i hF with k | k
    · exact h3 i hi k
    · have := hlt i hi
      omega
theorem RB.put (h : RB w wr r N L) (p : Px) (x : Pa) (hp : p.ok) (hx : x.ok) :
    Calls Tryz.prog 17 #[.pointer (some ⟨r, 0, none⟩), pxV p, paV x] wr fun e w' => e = .returned (.int .i64 (putT clsA L p x).2) ∧ RBTo w wr r N (putT clsA L p x).1 w' := by
  obtain ⟨F, h1, h2, h3⟩ := h.rib
  exact (put_ r F L p x h1 hp hx).mono fun e w' ⟨he, ht⟩ => ⟨he, RB.to h.fr h.lt h2 h3 ht⟩
theorem RB.drop (h : RB w wr r N L) (p : Px) (x : Pa) (hp : p.ok) :
    Calls Tryz.prog 21 #[.pointer (some ⟨r, 0, none⟩), pxV p, paV x] wr fun e w' => e = .returned (.int .i64 (dropT L p x).2) ∧ RBTo w wr r N (dropT L p x).1 w' := by
  obtain ⟨F, h1, h2, h3⟩ := h.rib
  exact (drp_ r F L p x h1 hp).mono fun e w' ⟨he, ht⟩ => ⟨he, RB.to h.fr h.lt h2 h3 ht⟩
theorem RB.flush (h : RB w wr r N L) (q : Int) :
    Calls Tryz.prog 22 #[.pointer (some ⟨r, 0, none⟩), .int .i64 q] wr fun e w' => e = .returned (.int .i64 ((L.length : Int) - ((flushT L q).length : Int))) ∧ RBTo w wr r N (flushT L q) w' := by
  obtain ⟨F, h1, h2, h3⟩ := h.rib
  exact (fls_ r F L q h1).mono fun e w' ⟨he, ht⟩ => ⟨he, RB.to h.fr h.lt h2 h3 ht⟩
theorem RB.best (h : RB w wr r N L) (p : Px) (hp : p.ok) :
    Calls Tryz.prog 19 #[.pointer (some ⟨r, 0, none⟩), pxV p] wr fun e w' => e = .returned (.tuple #[paV (bestT L p).1, .bool (bestT L p).2]) ∧ Fr N0 wr w' := by
  obtain ⟨F, h1, h2, h3⟩ := h.rib
  exact bst_ r F L p h1 hp
theorem RB.count (h : RB w wr r N L) : Calls Tryz.prog 20 #[.pointer (some ⟨r, 0, none⟩)] wr fun e w' => e = .returned (.int .i64 (L.length : Int)) ∧ Fr N0 wr w' := by
  obtain ⟨F, h1, h2, h3⟩ := h.rib
  exact cnt_ r F L h1
theorem RB.paths (h : RB w wr r N L) (p : Px) (hp : p.ok) : Calls Tryz.prog 11 #[.pointer (some ⟨r, 0, none⟩), pxV p] wr fun e w' => ∃ v, e = .returned v ∧ NewPs wr w' v (pathsT L p) := by
  obtain ⟨F, h1, h2, h3⟩ := h.rib
  exact pth_ r F L p h1 hp
theorem RB.prefs (h : RB w wr r N L) : Calls Tryz.prog 12 #[.pointer (some ⟨r, 0, none⟩)] wr fun e w' => ∃ v, e = .returned v ∧ NewXs wr w' v (prefsT L) := by
  obtain ⟨F, h1, h2, h3⟩ := h.rib
  exact prf_ r F L h1
theorem RB.over (h : RB w wr r N L) (a : Ad) (ha : a.ok) : Calls Tryz.prog 25 #[.pointer (some ⟨r, 0, none⟩), adV a] wr fun e w' => ∃ v, e = .returned v ∧ NewXs wr w' v (overT L a) := by
  obtain ⟨F, h1, h2, h3⟩ := h.rib
  exact ovr_ r F L a h1 ha
theorem RB.bet (h : RB w wr r N L) (x y : Pa) (hx : x.ok) (hy : y.ok) : Calls Tryz.prog 24 #[paV x, paV y] wr fun e w' => e = .returned (.bool (betP x y)) ∧ Fr N0 wr w' := by
  obtain ⟨F, h1, h2, h3⟩ := h.rib
  exact bet_ x y hx hy h1.dst
theorem rb_new (hd : Dst w) : Calls Tryz.prog 6 #[] w fun e w' => ∃ g, e = .returned (.pointer (some ⟨g, 0, none⟩)) ∧ w.heap.size ≤ g ∧ RB w w' g N0 [] := by
  refine (rnew hd).mono fun e w' ⟨g, F, he, hr, hf, hF⟩ => ⟨g, he, hF g hr.at_, ⟨F, hr, hF, fun i h => h.elim⟩, hf, fun i h => h.elim⟩
end
def xA : Pa := ⟨3, 5, byA 1, 0, false⟩
def xB : Pa := ⟨1, 0, byA 2, 0, false⟩
def yA : Pa := ⟨1, 7, byA 2, 0, false⟩
def xN : Pa := ⟨1, 0, byA 9, 0, false⟩
theorem aw1 : putT clsA [] tenP xA = ([(tenP, xA)], 0) := by decide
theorem aw2 : putT clsA [(tenP, xA)] tenP xB = ([(tenP, xB), (tenP, xA)], 0) := by decide
theorem aw3 : putT clsA [(tenP, xB), (tenP, xA)] tenP yA = ([(tenP, yA), (tenP, xA)], 0) := by decide
theorem aw4 : putT clsA [(tenP, yA), (tenP, xA)] tenP zeroPa = ([(tenP, yA), (tenP, xA)], 140) := by decide
theorem aw5 : bestT [(tenP, yA), (tenP, xA)] tenP = (yA, true) := by decide
theorem aw6 : dropT [(tenP, yA), (tenP, xA)] tenP xN = ([(tenP, yA), (tenP, xA)], 142) := by decide
theorem aw7 : flushT [(tenP, yA), (tenP, xA)] 1 = [(tenP, xA)] := by decide
theorem aw8 : pathsT [(tenP, xA)] tenP = [xA] := by decide
theorem aw9 : prefsT [(tenP, xA)] = [tenP] := by decide
theorem aw10 : betP yA xA = true := by decide
theorem aw11 : overT [(tenP, xA)] (byA 1) = [tenP] := by decide
theorem okTen : tenP.ok := ⟨⟨by decide, by decide⟩, by decide, by decide⟩
theorem okBy {n : Nat} (hn : n < 1000) : (byA n).ok := ⟨(show (0 : Nat) < _ by omega), (show 168361984 + n < _ by omega)⟩
end Go.Proofs.YtnklbeigikcfkaaGreatDoor
