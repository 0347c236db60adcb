/- RingOrders, walked. -/
import Derived.Test.YteggdpkjbbjcdaaAwake
import Derived.Test.YteggdpkjbbjcdaaRingStp
import Derived.Test.YteggdpkjbbjcdaaRef
import Derived.Deep.DeepCutAuto
import Derived.Deep.LoopGhost
import Derived.Deep.CutBlock
namespace Go.Proofs.Yteggdpkjbbjcdaa
open Go.RowKit

def flat (l : List Stp) : List Value := l.flatMap stepCells
theorem flat_add (l : List Stp) (x : Stp) : flat l ++ stepCells x = flat (l ++ [x]) := by simp [flat]
theorem flat_get : ∀ (l : List Stp) (j : Nat) (x : Stp), l[j]? = some x → (flat l)[j * 3]? = some (.int .i64 x.1) ∧ (flat l)[j * 3 + 1]? = some (.int .i64 x.2.1) ∧ (flat l)[j * 3 + 2]? = some (.string x.2.2)
  | [], j, x, h => by simp at h
  | y :: l, 0, x, h => by
    simp at h
    subst h
    simp [flat, stepCells]
  | y :: l, j + 1, x, h => by
    have ih := flat_get l j x (by simpa using h)
    have e : flat (y :: l) = stepCells y ++ flat l := by simp [flat]
    have e2 : (stepCells y).length = 3 := rfl
    rw [e]
    refine ⟨?_, ?_, ?_⟩
    · rw [List.getElem?_append_right (by rw [e2]; omega), e2, show (j + 1) * 3 - 3 = j * 3 from by omega]; exact ih.1
    · rw [List.getElem?_append_right (by rw [e2]; omega), e2, show (j + 1) * 3 + 1 - 3 = j * 3 + 1 from by omega]; exact ih.2.1
    · rw [List.getElem?_append_right (by rw [e2]; omega), e2, show (j + 1) * 3 + 2 - 3 = j * 3 + 2 from by omega]; exact ih.2.2

set_option maxRecDepth 100000 in
set_option maxHeartbeats 25600000 in
theorem orders_any (w : World) (order : Int) (_ : -9223372036854775808 ≤ order) (_ : order ≤ 9223372036854775807) (A : Option Addr) (len cap : Nat) (hrd : Rd Try.prog w 22 [.slice A len cap]) (_ : len * Try.prog.bytesOf 29 ≤ 140737488351232) :
    Calls Try.prog 4 #[.int .i64 order, .slice A len cap] w fun e w' => e = .returned (.bool true) ∧ Below w.heap.size w w' := by
  obtain ⟨k, hk⟩ : ∃ k : Nat, order % 8 = k := ⟨(order % 8).toNat, by omega⟩
  have hk7 : k ≤ 7 := by omega
  have hb := i64_and7 order
  rw [hk] at hb
  clear hk
  obtain ⟨hst, hlen⟩ := steps_in hrd
  have HST := Lib.hid hst
  clear hst hrd
  go_enter Try.func4, Try.ntmps4
  go_wp2_with fail
  refine (awake_any _).mono ?_
  rintro e w1 ⟨rfl, hB1⟩
  have H1 := Lib.hid hB1
  clear hB1
  go_wp2_with fail
  refine (new_stp k (by omega) _).mono ?_
  rintro e w2 ⟨b, g, rfl, hR, hb1, hg1, hB2⟩
  have H2 := Lib.hid (H1.out.trans (hB2.mono H1.out.size))
  have hS : ∀ i, i = b ∨ i = g → w.heap.size ≤ i := by have := H1.out.size; rintro i (rfl | rfl) <;> omega
  have hblt := hR.lt
  clear hB2 hb
  have hm7 : 2 ^ k ≤ 128 := Nat.pow_le_pow_right (n := 2) (j := 7) (by omega) (by omega)
  generalize 2 ^ k = m at *
  go_wp2_with fail
  have hroom := room_stp b g m 0 [] w2 hR (by simp)
  rw [show ((m : Int) - (([] : List Stp).length : Nat)) = m from by simp] at hroom
  refine hroom.mono ?_
  rintro e w3 ⟨rfl, k3, rfl⟩
  clear hroom
  have hR3 : RingS (w2.drewN k3) b g m 0 [] := hR
  have H3 := Lib.hid (show Below w.heap.size w (w2.drewN k3) from ⟨H2.out.os, H2.out.tape, H2.out.output, H2.out.size, H2.out.block⟩)
  have hz2 : (w2.drewN k3).heap.size = w2.heap.size := rfl
  have hbB : b < (w2.drewN k3).heap.size ∧ g < (w2.drewN k3).heap.size := hblt
  clear hR hz2
  go_upto_block 0 with fail
  generalize w2.drewN k3 = wb at *
  go_cut [8, 9] (fun v8 v9 wx => ∃ (ins : List Stp) (o c : Nat) (I : Option Addr), o ≤ ins.length ∧ ins.length ≤ 300 ∧ v8 = .slice I ins.length c ∧ v9 = .int .i64 o ∧ RingS wx b g m o (ins.drop o) ∧ Own wx 29 3 I ins.length c (flat ins) ∧ (∀ g', I = some ⟨g', 0, none⟩ → wb.heap.size ≤ g') ∧ wb.heap.size ≤ wx.heap.size ∧ Below w.heap.size w wx)
  case first =>
    go_wp2_with fail
    go_loopg [8, 9, 10] 300 (fun gk v8 v9 i wr => ∃ (j : Nat) (ins : List Stp) (o c : Nat) (I : Option Addr), j + gk = 300 ∧ j ≤ len ∧ i = .int .i64 j ∧ o ≤ ins.length ∧ ins.length ≤ j ∧ v8 = .slice I ins.length c ∧ v9 = .int .i64 o ∧ RingS wr b g m o (ins.drop o) ∧ Own wr 29 3 I ins.length c (flat ins) ∧ (∀ g', I = some ⟨g', 0, none⟩ → wb.heap.size ≤ g') ∧ wb.heap.size ≤ wr.heap.size ∧ Below w.heap.size w wr)
    case atStart => exact ⟨0, [], 0, 0, none, rfl, Nat.zero_le _, rfl, Nat.le_refl _, Nat.le_refl _, rfl, rfl, hR3, Own.nil_ _ _ _, nofun, Nat.le_refl _, H3.out⟩
    case round =>
      obtain ⟨j, ins, o, c, I, hj, hjl, rfl, hoi, hij, rfl, rfl, hRr, hOr, hIr, hzr, hBr⟩ := hrel
      have HJ := Lib.hid hj
      have HBr := Lib.hid hBr
      have HRr := Lib.hid hRr
      have HOr := Lib.hid hOr
      have HIr := Lib.hid hIr
      have hj3 : j ≤ 300 := by omega
      clear hj hBr hRr hOr hIr
      by_cases hlt : j < len
      · by_cases hlt2 : j < 300
        · obtain ⟨sb, so, rfl, hsb, hi⟩ := (HST.out.below HBr.out) (by omega)
          obtain ⟨x, n, s, ⟨hx1, hx2, hn1, hn2, hs⟩, c0, c1, c2⟩ := hi j hlt
          go_wp2_with fail
          refine (kind_fr x n s _).mono ?_
          rintro e w4 ⟨rfl, hF4⟩
          have hF := Lib.hid (show Fr (fun _ => False) wr w4 from ((Fr.refl _ wr).alloc _).step hF4 (fun _ h => h.elim))
          have HX := Lib.hid ((Blk.new wr 29 #[.int .i64 x, .int .i64 n, .string s]).fr hF4 (fun h => h))
          have HR4 := Lib.hid (HRr.out.fr hF.out (fun h => h) (fun h => h))
          have HO4 := Lib.hid (HOr.out.fr hF.out (fun _ _ h => h))
          have HB4 := Lib.hid (below_fr HBr.out hF.out HBr.out.size (fun _ h => h.elim))
          have hz4 : wb.heap.size ≤ w4.heap.size := Nat.le_trans hzr hF.out.size
          have hbx : wb.heap.size ≤ wr.heap.size := hzr
          clear hF4 hi c0 c1 c2
          generalize wr.heap.size = bx at *
          go_upto_if 47 with fail
          go_cut [8, 9] (fun v8 v9 wx => ∃ (ins : List Stp) (o c : Nat) (I : Option Addr), o ≤ ins.length ∧ ins.length ≤ j + 1 ∧ v8 = .slice I ins.length c ∧ v9 = .int .i64 o ∧ RingS wx b g m o (ins.drop o) ∧ Own wx 29 3 I ins.length c (flat ins) ∧ (∀ g', I = some ⟨g', 0, none⟩ → wb.heap.size ≤ g') ∧ wb.heap.size ≤ wx.heap.size ∧ Below w.heap.size w wx)
          case first =>
            have e1 : (ins.drop o).length = ins.length - o := by rw [List.length_drop]
            have hqm : ins.length - o ≤ m := by have := HR4.out.2.2.1; rw [e1] at this; exact this
            have L0 := Lib.hid (room_stp b g m o _ w4 HR4.out (by rw [e1]; omega))
            have x0 : w4.cell? ⟨bx, 0, none⟩ = some (.int .i64 x) := HX.out.cell 0
            have x1 : w4.cell? ⟨bx, 1, none⟩ = some (.int .i64 n) := HX.out.cell 1
            have x2 : w4.cell? ⟨bx, 2, none⟩ = some (.string s) := HX.out.cell 2
            have hxl : bx < w4.heap.size := HX.out.lt
            rw [e1] at L0
            have e2 : ((ins.length - o : Nat) : Int) = (ins.length : Int) - o := by omega
            rw [e2] at L0
            clear e2
            have E1 := Lib.hid e1
            clear e1
            by_cases hx2 : x % 4 < 2
            · by_cases hfull : ins.length - o < m
              · have P1 := Lib.hid (fun i => push_stp b g m o (ins.drop o) x n s (w4.drewN i) HR4.out (by rw [E1.out]; omega))
                have hroomb : ((m : Int) - (ins.length - o) == 0) = false := by simp; omega
                go_wp2_with fail
                refine L0.out.mono ?_
                rintro e w5 ⟨rfl, k5, rfl⟩
                go_wp2_with fail
                refine (P1.out k5).mono ?_
                rintro e w6 ⟨rfl, hR6, hF6⟩
                rw [E1.out, if_pos hfull] at hR6
                rw [show decide ((ins.drop o).length < m) = true from by rw [E1.out]; simp [hfull]]
                have hF6' := Lib.hid (((Fr.refl (fun i => i = b ∨ i = g) w4).drewN k5).trans hF6)
                clear hF6
                have hnb : ¬ (bx = b ∨ bx = g) := by omega
                have y0 := (hF6'.out.cell (p := ⟨bx, 0, none⟩) hxl hnb).trans x0
                have y1 := (hF6'.out.cell (p := ⟨bx, 1, none⟩) hxl hnb).trans x1
                have y2 := (hF6'.out.cell (p := ⟨bx, 2, none⟩) hxl hnb).trans x2
                have hO6 := HO4.out.fr hF6'.out (fun g' h => by have := HIr.out g' h; show ¬ (g' = b ∨ g' = g); omega)
                have HR6 := Lib.hid hR6
                have HB6 := Lib.hid (below_fr HB4.out hF6'.out HB4.out.size hS)
                have hz6 : wb.heap.size ≤ w6.heap.size := Nat.le_trans hz4 hF6'.out.size
                clear hR6 x0 x1 x2
                obtain ⟨i0, hi, hz0, hz1, hz2⟩ := info_parts info_stp
                go_wp2_with (at_builtin; refine wpList_append1 w6 rfl _ _ 22 rfl 29 i0 _ 3 32 Try.underlying22 hi hz0 hz1 hz2 rfl (by omega) I ins.length c _ rfl hO6 (stepCells (x, n, s)) rfl rfl ?_ ?_ ?_ ?_)
                · intro u hu; simp [stepCells] at hu; rcases hu with rfl | rfl | rfl <;> rfl
                · omega
                · omega
                · intro g' c' w7 hown7 hF7 hat7
                  rw [flat_add] at hown7
                  have HO7 := Lib.hid hown7
                  have hI7 : ∀ i, I = some ⟨i, 0, none⟩ → wb.heap.size ≤ i := HIr.out
                  have HR7 := Lib.hid (HR6.out.fr hF7 (fun h => by have := hI7 _ h; omega) (fun h => by have := hI7 _ h; omega))
                  have hwb : w.heap.size ≤ wb.heap.size := H3.out.size
                  have HB7 := Lib.hid (below_fr HB6.out hF7 HB6.out.size (fun i h => by have := hI7 i h; omega))
                  have HI7 := Lib.hid (show ∀ g'', (some (⟨g', 0, none⟩ : Addr)) = some ⟨g'', 0, none⟩ → wb.heap.size ≤ g'' from by
                    intro g'' h
                    injection h with h
                    injection h with h
                    subst h
                    rcases hat7 with h | h
                    · exact hI7 _ h
                    · exact Nat.le_trans hz6 h)
                  have HZ7 := Lib.hid (Nat.le_trans hz6 hF7.size)
                  clear hown7 hF7 hat7 hI7 hO6 y0 y1 y2
                  go_wp2_with fail
                  go_meet
                  refine ⟨ins ++ [(x, n, s)], o, c', _, by simp; omega, by simp; omega, by simp, rfl, ?_, by simpa using HO7.out, HI7.out, HZ7.out, HB7.out⟩
                  rw [List.drop_append_of_le_length hoi]
                  exact HR7.out
              · have P1 := Lib.hid (fun i => push_stp b g m o (ins.drop o) x n s (w4.drewN i) HR4.out (by rw [E1.out]; omega))
                have hroomb : ((m : Int) - (ins.length - o) == 0) = true := by simp; omega
                go_wp2_with fail
                refine L0.out.mono ?_
                rintro e w5 ⟨rfl, k5, rfl⟩
                go_wp2_with fail
                refine (P1.out k5).mono ?_
                rintro e w6 ⟨rfl, hR6, hF6⟩
                rw [E1.out, if_neg hfull] at hR6
                rw [show decide ((ins.drop o).length < m) = false from by rw [E1.out]; simp; omega]
                have hF6' := Lib.hid (((Fr.refl (fun i => i = b ∨ i = g) w4).drewN k5).trans hF6)
                clear hF6
                have HO6 := Lib.hid (HO4.out.fr hF6'.out (fun g' h => by have := HIr.out g' h; show ¬ (g' = b ∨ g' = g); omega))
                have HR6 := Lib.hid hR6
                have HB6 := Lib.hid (below_fr HB4.out hF6'.out HB4.out.size hS)
                have hz6 : wb.heap.size ≤ w6.heap.size := Nat.le_trans hz4 hF6'.out.size
                clear hR6 x0 x1 x2
                go_wp2_with fail
                go_meet
                exact ⟨ins, o, c, I, hoi, by omega, rfl, rfl, HR6.out, HO6.out, HIr.out, hz6, HB6.out⟩
            · rcases Nat.lt_or_ge o ins.length with hol | hol
              · obtain ⟨⟨x', n', s'⟩, hio⟩ : ∃ y, ins[o]? = some y := ⟨_, List.getElem?_eq_getElem hol⟩
                have hd : ins.drop o = (x', n', s') :: ins.drop (o + 1) := by
                  rw [List.drop_eq_getElem_cons hol]
                  rw [List.getElem?_eq_getElem hol] at hio
                  injection hio with hio
                  rw [hio]
                have P1 := Lib.hid (pop_some_stp b g m o x' n' s' (ins.drop (o + 1)) w4 (hd ▸ HR4.out) (by rw [List.length_drop]; omega))
                obtain ⟨ig, rfl⟩ := HO4.out.some_ (by omega)
                have higb := HIr.out ig rfl
                obtain ⟨f0, f1, f2⟩ := flat_get ins o _ hio
                have hO4 := HO4.out
                have g0 := (hO4.cell (o * 3) (by omega)).trans f0
                have g1 := (hO4.cell (o * 3 + 1) (by omega)).trans f1
                have g2 := (hO4.cell (o * 3 + 2) (by omega)).trans f2
                have higl := hO4.lt rfl
                clear hd hio f0 f1 f2
                go_wp2_with fail
                refine P1.out.mono ?_
                rintro e w6 ⟨rfl, hR6, hF6⟩
                have hF6' := Lib.hid hF6
                have HO6 := Lib.hid ((hO4.fr hF6 (fun g' h => by injection h with h; injection h with h; show ¬ (g' = b ∨ g' = g); omega)).fr ((Fr.refl (fun _ => False) w6).alloc (.cells #[.int .i64 x', .int .i64 n', .string s'] 29)) (fun _ _ h => h))
                have HR6 := Lib.hid (hR6.fr ((Fr.refl (fun _ => False) w6).alloc (.cells #[.int .i64 x', .int .i64 n', .string s'] 29)) (fun h => h) (fun h => h))
                have HB6 := Lib.hid (below_fr (S := fun _ => False) (below_fr HB4.out hF6 HB4.out.size hS) ((Fr.refl _ w6).alloc (.cells #[.int .i64 x', .int .i64 n', .string s'] 29)) (Nat.le_trans HB4.out.size hF6.size) (fun _ h => h.elim))
                have hz6 : wb.heap.size ≤ (w6.alloc (.cells #[.int .i64 x', .int .i64 n', .string s'] 29)).heap.size := by simp; have := hF6.size; omega
                have hY := Blk.new w6 29 #[.int .i64 x', .int .i64 n', .string s']
                have y0 := hY.cell 0
                have y1 := hY.cell 1
                have y2 := hY.cell 2
                simp only [List.getElem?_toArray, List.getElem?_cons_zero, List.getElem?_cons_succ] at y0 y1 y2
                have k0 := (World.cell?_alloc_lt w6 (.cells #[.int .i64 x', .int .i64 n', .string s'] 29) ⟨ig, o * 3, none⟩ (by have := hF6.size; show ig < w6.heap.size; omega)).trans ((hF6.cell (p := ⟨ig, o * 3, none⟩) higl (show ¬ (ig = b ∨ ig = g) by omega)).trans g0)
                have k1 := (World.cell?_alloc_lt w6 (.cells #[.int .i64 x', .int .i64 n', .string s'] 29) ⟨ig, o * 3 + 1, none⟩ (by have := hF6.size; show ig < w6.heap.size; omega)).trans ((hF6.cell (p := ⟨ig, o * 3 + 1, none⟩) higl (show ¬ (ig = b ∨ ig = g) by omega)).trans g1)
                have k2 := (World.cell?_alloc_lt w6 (.cells #[.int .i64 x', .int .i64 n', .string s'] 29) ⟨ig, o * 3 + 2, none⟩ (by have := hF6.size; show ig < w6.heap.size; omega)).trans ((hF6.cell (p := ⟨ig, o * 3 + 2, none⟩) higl (show ¬ (ig = b ∨ ig = g) by omega)).trans g2)
                have h1 : (o : Int) < ins.length := by omega
                have h2 : (0 : Int) ≤ o := by omega
                clear hR6 hF6 hY g0 g1 g2 hO4 x0 x1 x2
                go_wp2_with fail
                go_quiet (fail)
                go_wp2_with fail
                go_meet
                exact ⟨ins, o + 1, c, _, by omega, by omega, rfl, by go_num, HR6.out.drewN _, HO6.out, HIr.out, hz6, ⟨HB6.out.os, HB6.out.tape, HB6.out.output, HB6.out.size, HB6.out.block⟩⟩
              · have hRe : RingS w4 b g m o [] := by
                  have h := HR4.out
                  rw [List.drop_eq_nil_of_le hol] at h
                  exact h
                have P1 := Lib.hid (pop_none_stp b g m o w4 hRe)
                clear hRe
                go_wp2_with fail
                refine P1.out.mono ?_
                rintro e w6 ⟨rfl, hF6⟩
                have HO6 := Lib.hid ((HO4.out.fr hF6 (fun _ _ h => h)).fr ((Fr.refl (fun _ => False) w6).alloc (.cells #[.int .i64 0, .int .i64 0, .string ⟨#[]⟩] 29)) (fun _ _ h => h))
                have HR6 := Lib.hid ((HR4.out.fr hF6 (fun h => h) (fun h => h)).fr ((Fr.refl (fun _ => False) w6).alloc (.cells #[.int .i64 0, .int .i64 0, .string ⟨#[]⟩] 29)) (fun h => h) (fun h => h))
                have HB6 := Lib.hid (below_fr (S := fun _ => False) (below_fr HB4.out hF6 HB4.out.size (fun _ h => h.elim)) ((Fr.refl _ w6).alloc (.cells #[.int .i64 0, .int .i64 0, .string ⟨#[]⟩] 29)) (Nat.le_trans HB4.out.size hF6.size) (fun _ h => h.elim))
                have hz6 : wb.heap.size ≤ (w6.alloc (.cells #[.int .i64 0, .int .i64 0, .string ⟨#[]⟩] 29)).heap.size := by simp; have := hF6.size; omega
                have hY := Blk.new w6 29 #[.int .i64 0, .int .i64 0, .string ⟨#[]⟩]
                have y0 := hY.cell 0
                have y1 := hY.cell 1
                have y2 := hY.cell 2
                simp only [List.getElem?_toArray, List.getElem?_cons_zero, List.getElem?_cons_succ] at y0 y1 y2
                have h1 : ¬ ((o : Int) < ins.length) := by omega
                have h2 : decide ((o : Int) < ins.length) = false := by simp; omega
                clear hF6 hY x0 x1 x2
                go_wp2_with fail
                go_quiet (fail)
                go_wp2_with fail
                go_meet
                exact ⟨ins, o, c, I, by omega, by omega, rfl, rfl, HR6.out.drewN _, HO6.out, HIr.out, hz6, ⟨HB6.out.os, HB6.out.tape, HB6.out.output, HB6.out.size, HB6.out.block⟩⟩
          case rest =>
            obtain ⟨ins', o', c', I', hoi', hij', rfl, rfl, hR5, hO5, hI5, hz5, hB5⟩ := hcut
            have e1 : (ins'.drop o').length = ins'.length - o' := by rw [List.length_drop]
            have L1 := Lib.hid (fun i => len_stp b g m o' _ (wc.drewN i) hR5 (by rw [e1]; omega))
            have L2 := Lib.hid (fun i => room_stp b g m o' _ (wc.drewN i) hR5 (by rw [e1]; omega))
            rw [e1] at L1 L2
            have e2 : ((ins'.length - o' : Nat) : Int) = (ins'.length : Int) - o' := by omega
            rw [e2] at L1 L2
            have hqm : ins'.length - o' ≤ m := by have := hR5.2.2.1; rw [e1] at this; exact this
            have HR5 := Lib.hid hR5
            have HO5 := Lib.hid hO5
            have HI5 := Lib.hid hI5
            have HB5 := Lib.hid hB5
            clear e1 e2 hR5 hO5 hI5 hB5
            generalize hq : ins'.length = q at *
            have HQ := Lib.hid hq
            clear hq
            have hsum : ((q : Int) - o' + (m - (q - o')) != (m : Int)) = false := by simp; omega
            go_wp2_with fail
            refine (L1.out 0).mono ?_
            rintro e w6 ⟨rfl, k6, rfl⟩
            go_wp2_with fail
            refine (L2.out k6).mono ?_
            rintro e w7 ⟨rfl, k7, rfl⟩
            go_wp2_with fail
            refine (L1.out (k6 + k7)).mono ?_
            rintro e w8 ⟨rfl, k8, rfl⟩
            go_wp2_with fail
            go_roundg (gk - 1)
            case measure => have := HJ.out; omega
            case rel =>
              have h1 := HJ.out
              exact ⟨j + 1, ins', o', c', I', by omega, by omega, by go_num, by rw [HQ.out]; omega, by rw [HQ.out]; omega, by rw [HQ.out], rfl, HR5.out, by rw [HQ.out]; exact HO5.out, HI5.out, hz5, ⟨HB5.out.os, HB5.out.tape, HB5.out.output, HB5.out.size, HB5.out.block⟩⟩
        · go_wp2_with fail
          go_meet
          exact ⟨ins, o, c, I, hoi, by omega, rfl, rfl, HRr.out, HOr.out, HIr.out, hzr, HBr.out⟩
      · go_wp2_with fail
        go_meet
        exact ⟨ins, o, c, I, hoi, by omega, rfl, rfl, HRr.out, HOr.out, HIr.out, hzr, HBr.out⟩
  case rest =>
    obtain ⟨ins, o, c, I, hoi, hi3, rfl, rfl, hRc, hOc, hIc, hzc, hBc⟩ := hcut
    have HIc := Lib.hid hIc
    clear hIc hR3
    go_wp2_with fail
    go_loopg [9] (ins.length - o) (fun gk v9 wr => ∃ o' : Nat, o' + gk = ins.length ∧ v9 = .int .i64 o' ∧ RingS wr b g m o' (ins.drop o') ∧ Own wr 29 3 I ins.length c (flat ins) ∧ Below w.heap.size w wr)
    case atStart => exact ⟨o, by omega, rfl, hRc, hOc, hBc⟩
    case round =>
      obtain ⟨o', ho', rfl, hRr, hOr, hBr⟩ := hrel
      have HO' := Lib.hid ho'
      have HBr := Lib.hid hBr
      have hol' : o' ≤ ins.length := by omega
      clear ho' hBr hRc hOc hBc
      by_cases hol : o' < ins.length
      · obtain ⟨⟨x', n', s'⟩, hio⟩ : ∃ y, ins[o']? = some y := ⟨_, List.getElem?_eq_getElem hol⟩
        have hd : ins.drop o' = (x', n', s') :: ins.drop (o' + 1) := by
          rw [List.drop_eq_getElem_cons hol]
          rw [List.getElem?_eq_getElem hol] at hio
          injection hio with hio
          rw [hio]
        have P1 := Lib.hid (pop_some_stp b g m o' x' n' s' (ins.drop (o' + 1)) wr (hd ▸ hRr) (by rw [List.length_drop]; omega))
        obtain ⟨ig, rfl⟩ := hOr.some_ (by omega)
        have higb := HIc.out ig rfl
        obtain ⟨f0, f1, f2⟩ := flat_get ins o' _ hio
        have g0 := (hOr.cell (o' * 3) (by omega)).trans f0
        have g1 := (hOr.cell (o' * 3 + 1) (by omega)).trans f1
        have g2 := (hOr.cell (o' * 3 + 2) (by omega)).trans f2
        have higl := hOr.lt rfl
        clear hd hio f0 f1 f2 hRr
        go_wp2_with fail
        refine P1.out.mono ?_
        rintro e w6 ⟨rfl, hR6, hF6⟩
        have HO6 := Lib.hid ((hOr.fr hF6 (fun g' h => by injection h with h; injection h with h; show ¬ (g' = b ∨ g' = g); omega)).fr ((Fr.refl (fun _ => False) w6).alloc (.cells #[.int .i64 x', .int .i64 n', .string s'] 29)) (fun _ _ h => h))
        have HR6 := Lib.hid (hR6.fr ((Fr.refl (fun _ => False) w6).alloc (.cells #[.int .i64 x', .int .i64 n', .string s'] 29)) (fun h => h) (fun h => h))
        have HB6 := Lib.hid (below_fr (S := fun _ => False) (below_fr HBr.out hF6 HBr.out.size hS) ((Fr.refl _ w6).alloc (.cells #[.int .i64 x', .int .i64 n', .string s'] 29)) (Nat.le_trans HBr.out.size hF6.size) (fun _ h => h.elim))
        have hY := Blk.new w6 29 #[.int .i64 x', .int .i64 n', .string s']
        have y0 := hY.cell 0
        have y1 := hY.cell 1
        have y2 := hY.cell 2
        simp only [List.getElem?_toArray, List.getElem?_cons_zero, List.getElem?_cons_succ] at y0 y1 y2
        have k0 := (World.cell?_alloc_lt w6 (.cells #[.int .i64 x', .int .i64 n', .string s'] 29) ⟨ig, o' * 3, none⟩ (by have := hF6.size; show ig < w6.heap.size; omega)).trans ((hF6.cell (p := ⟨ig, o' * 3, none⟩) higl (show ¬ (ig = b ∨ ig = g) by omega)).trans g0)
        have k1 := (World.cell?_alloc_lt w6 (.cells #[.int .i64 x', .int .i64 n', .string s'] 29) ⟨ig, o' * 3 + 1, none⟩ (by have := hF6.size; show ig < w6.heap.size; omega)).trans ((hF6.cell (p := ⟨ig, o' * 3 + 1, none⟩) higl (show ¬ (ig = b ∨ ig = g) by omega)).trans g1)
        have k2 := (World.cell?_alloc_lt w6 (.cells #[.int .i64 x', .int .i64 n', .string s'] 29) ⟨ig, o' * 3 + 2, none⟩ (by have := hF6.size; show ig < w6.heap.size; omega)).trans ((hF6.cell (p := ⟨ig, o' * 3 + 2, none⟩) higl (show ¬ (ig = b ∨ ig = g) by omega)).trans g2)
        have h1 : (o' : Int) < ins.length := by omega
        have h2 : (0 : Int) ≤ o' := by omega
        clear hR6 hF6 hY g0 g1 g2 hOr
        go_wp2_with fail
        go_quiet (fail)
        go_wp2_with fail
        go_roundg (gk - 1)
        case measure => have := HO'.out; omega
        case rel =>
          have := HO'.out
          exact ⟨o' + 1, by omega, by go_num, HR6.out.drewN _, HO6.out, ⟨HB6.out.os, HB6.out.tape, HB6.out.output, HB6.out.size, HB6.out.block⟩⟩
      · have hRe : RingS wr b g m o' [] := by
          have h := hRr
          rw [List.drop_eq_nil_of_le (by omega)] at h
          exact h
        have P1 := Lib.hid (pop_none_stp b g m o' wr hRe)
        clear hRr hOr
        go_wp2_with fail
        refine P1.out.mono ?_
        rintro e w6 ⟨rfl, hF6⟩
        have hR7 := (hRe.fr hF6 (fun h => h) (fun h => h)).fr ((Fr.refl (fun _ => False) w6).alloc (.cells #[.int .i64 0, .int .i64 0, .string ⟨#[]⟩] 29)) (fun h => h) (fun h => h)
        have HB6 := Lib.hid (below_fr (S := fun _ => False) (below_fr HBr.out hF6 HBr.out.size (fun _ h => h.elim)) ((Fr.refl _ w6).alloc (.cells #[.int .i64 0, .int .i64 0, .string ⟨#[]⟩] 29)) (Nat.le_trans HBr.out.size hF6.size) (fun _ h => h.elim))
        have P2 := Lib.hid (len_stp b g m o' [] _ hR7 (by simp; omega))
        clear hF6 hRe hR7
        go_wp2_with fail
        refine P2.out.mono ?_
        rintro e w8 ⟨rfl, k8, rfl⟩
        go_wp2_with fail
        go_ret
        exact ⟨rfl, ⟨HB6.out.os, HB6.out.tape, HB6.out.output, HB6.out.size, HB6.out.block⟩⟩
end Go.Proofs.Yteggdpkjbbjcdaa
