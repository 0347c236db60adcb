/- prefix.Common. -/
import Derived.Test.YtcameghlkplgfaaGreatDoorLz
import Derived.Test.YtcameghlkplgfaaGreatDoorPc
import Derived.Deep.RegionHeld3
import Derived.Laws.Bits64
import Derived.WalkMore
namespace Go.Proofs.YtcameghlkplgfaaGreatDoor
open Go.RowKit
/-- How many first bits two addresses have in common; -1: they are not alike. -/
def CmR (a b : Ad) (r : Int) : Prop := if validA a = true ∧ validA b = true ∧ a.six = b.six then ∃ n : Nat, r = (n : Int) ∧ CmnIs a b n else r = -1
theorem CmR.eq {a b : Ad} {r q : Int} (h : CmR a b r) (k : CmR a b q) : r = q := by
  unfold CmR at h k
  split at h
  · rename_i hc
    rw [if_pos hc] at k
    obtain ⟨n, rfl, h1⟩ := h
    obtain ⟨m, rfl, k1⟩ := k
    rw [h1.eq k1]
  · rename_i hc
    rw [if_neg hc] at k
    rw [h, k]
theorem xor_u8 (a b : Nat) (ha : a < 256) (hb : b < 256) : bits .xor .u8 (a : Int) (b : Int) = ((a ^^^ b : Nat) : Int) := by
  have hx : a ^^^ b < 2 ^ 8 := Nat.xor_lt_two_pow (by omega) (by omega)
  have h1 : (BitVec.ofInt 8 (a : Int)).toNat = a := by
    rw [BitVec.ofInt_natCast, BitVec.toNat_ofNat]; exact Nat.mod_eq_of_lt (by omega)
  have h2 : (BitVec.ofInt 8 (b : Int)).toNat = b := by
    rw [BitVec.ofInt_natCast, BitVec.toNat_ofNat]; exact Nat.mod_eq_of_lt (by omega)
  show IntKind.u8.wrap ((BitVec.ofInt 8 (a : Int) ^^^ BitVec.ofInt 8 (b : Int)).toNat : Int) = _
  rw [BitVec.toNat_xor, h1, h2, IntKind.wrap_u8]
  omega
theorem Bx.fr' {w wr w' : World} {v : Value} {l : List Nat} (k : Bx w wr v l) (hF : Fr N0 wr w') : Bx w w' v l := by
  obtain ⟨A, c, h1, h2, h3, h4⟩ := k
  exact ⟨A, c, h1, h2.fr hF fun _ _ => id, h3, h4.trans hF⟩
section
variable {w : World}
set_option maxHeartbeats 1600000 in
set_option maxRecDepth 100000 in
theorem com_ (a b : Ad) (ha : a.ok) (hb : b.ok) : Calls Tryz.prog 16 #[adV a, adV b] w fun e w' => ∃ r, e = .returned (.int .i64 r) ∧ CmR a b r ∧ Fr N0 w w' := by
  have HX1 := Lib.hid fun (va : validA a = true) (vb : validA b = true) (hs : a.six = b.six) (h : ∀ j, j < nby a → byteA a j = byteA b j) => cmn_all ha hb va vb hs h
  have HX2 := Lib.hid fun (va : validA a = true) (vb : validA b = true) (hs : a.six = b.six) (i : Nat) (hi : i < nby a) (h : ∀ j, j < i → byteA a j = byteA b j) (hne : byteA a i ≠ byteA b i) => cmn_byte ha hb va vb hs hi h hne
  obtain ⟨s, h, l⟩ := a
  obtain ⟨s', h', l'⟩ := b
  have HO1 := Lib.hid ha
  have HO2 := Lib.hid hb
  clear ha hb
  have c29 : ∀ (w : World) {b : Bool}, validA ⟨s, h, l⟩ = b → Calls Tryz.prog 27 #[.agg #[.bool s, .int .u64 (h : Int), .int .u64 (l : Int)]] w fun e w' => e = .returned (.bool b) ∧ Fr N0 w w' := fun w b hb => hb ▸ aval (w := w) ⟨s, h, l⟩
  have d29 : ∀ (w : World) {b : Bool}, validA ⟨s', h', l'⟩ = b → Calls Tryz.prog 27 #[.agg #[.bool s', .int .u64 (h' : Int), .int .u64 (l' : Int)]] w fun e w' => e = .returned (.bool b) ∧ Fr N0 w w' := fun w b hb => hb ▸ aval (w := w) ⟨s', h', l'⟩
  have key : ∀ b b', validA ⟨s, h, l⟩ = b → validA ⟨s', h', l'⟩ = b' → ((b = false ∧ CmR ⟨s, h, l⟩ ⟨s', h', l'⟩ (-1)) ∨ (b = true ∧ b' = false ∧ CmR ⟨s, h, l⟩ ⟨s', h', l'⟩ (-1)) ∨ (b = true ∧ b' = true ∧ decide (s = s') = false ∧ (s == s') = false ∧ (s != s') = true ∧ CmR ⟨s, h, l⟩ ⟨s', h', l'⟩ (-1))) →
      Calls Tryz.prog 16 #[adV ⟨s, h, l⟩, adV ⟨s', h', l'⟩] w fun e w' => ∃ r, e = .returned (.int .i64 r) ∧ CmR ⟨s, h, l⟩ ⟨s', h', l'⟩ r ∧ Fr N0 w w' := by
    rintro b b' e1 e2 hc
    have k29 := fun w => c29 w e1
    have q29 := fun w => d29 w e2
    clear c29 d29 e1 e2
    go_enter Tryz.func16, Tryz.ntmps16
    unfold adV
    go_wp2_with fail
    have HA1 := Lib.hid ((Blk.new w 24 #[Value.bool s, Value.int .u64 (h : Int), Value.int .u64 (l : Int)]).alloc (.cells #[Value.bool s', Value.int .u64 (h' : Int), Value.int .u64 (l' : Int)] 24))
    have HA2 := Lib.hid (Blk.alloc2 w (.cells #[Value.bool s, Value.int .u64 (h : Int), Value.int .u64 (l : Int)] 24) 24 #[Value.bool s', Value.int .u64 (h' : Int), Value.int .u64 (l' : Int)])
    have HF1 := Lib.hid (Fr.alloc (Fr.alloc (Fr.refl N0 w) (.cells #[Value.bool s, Value.int .u64 (h : Int), Value.int .u64 (l : Int)] 24)) (.cells #[Value.bool s', Value.int .u64 (h' : Int), Value.int .u64 (l' : Int)] 24))
    generalize World.alloc (w.alloc _) _ = w1 at *
    obtain ⟨g2, hg2⟩ : ∃ g2, g2 = w.heap.size + 1 := ⟨_, rfl⟩
    rw [← hg2] at HA2 ⊢
    have HG2 : Hid (w.heap.size ≤ g2) := Lib.hid (by omega)
    obtain ⟨g1, hg1⟩ : ∃ g1, g1 = w.heap.size := ⟨_, rfl⟩
    rw [← hg1] at HA1 ⊢
    have HG1 : Hid (w.heap.size ≤ g1) := Lib.hid (by omega)
    have HN1_2 : Hid (g1 ≠ g2) := Lib.hid (by omega)
    clear hg1 hg2
    have HZ1 : Hid (∀ W, Fr N0 w1 W → Blk W g1 24 #[Value.bool s, Value.int .u64 (h : Int), Value.int .u64 (l : Int)]) := Lib.hid fun W hf => HA1.out.fr hf id
    have HZ2 : Hid (∀ W, Fr N0 w1 W → Blk W g2 24 #[Value.bool s', Value.int .u64 (h' : Int), Value.int .u64 (l' : Int)]) := Lib.hid fun W hf => HA2.out.fr hf id
    have F := Lib.hid (Fr.refl N0 w1)
    obtain ⟨z1_0, z1_1, z1_2⟩ := (HZ1.out _ F.out).c3
    obtain ⟨z2_0, z2_1, z2_2⟩ := (HZ2.out _ F.out).c3
    go_step3
    rcases hc with ⟨rfl, he⟩ | ⟨rfl, rfl, he⟩ | ⟨rfl, rfl, hd, hd', hd2, he⟩
    all_goals
      have HE := Lib.hid he
      clear he
      go_wp2_with (first
        | (go_at_call_of 27 l; refine (k29 _).mono ?_; rintro e w2 ⟨rfl, hf⟩; have F := Lib.hid (F.out.trans hf); obtain ⟨z1_0, z1_1, z1_2⟩ := (HZ1.out _ F.out).c3; obtain ⟨z2_0, z2_1, z2_2⟩ := (HZ2.out _ F.out).c3)
        | (go_at_call_of 27 l'; refine (q29 _).mono ?_; rintro e w2 ⟨rfl, hf⟩; have F := Lib.hid (F.out.trans hf); obtain ⟨z1_0, z1_1, z1_2⟩ := (HZ1.out _ F.out).c3; obtain ⟨z2_0, z2_1, z2_2⟩ := (HZ2.out _ F.out).c3))
      rw [Exit.noGoto_ret]
      go_ret
      exact ⟨_, rfl, HE.out, HF1.out.trans F.out⟩
  by_cases hgood : validA ⟨s, h, l⟩ = true ∧ validA ⟨s', h', l'⟩ = true ∧ s = s'
  · obtain ⟨va, vb, rfl⟩ := hgood
    clear key
    have k29 := fun w => c29 w va
    have q29 := fun w => d29 w vb
    have k36 : ∀ w : World, Calls Tryz.prog 30 #[.agg #[.bool s, .int .u64 (h : Int), .int .u64 (l : Int)]] w fun e w' => ∃ v, e = .returned v ∧ Bx w w' v (bytesA ⟨s, h, l⟩) := fun w => by
      have := byt_ (w := w) ⟨s, h, l⟩ HO1.out
      rwa [if_pos va] at this
    have q36 : ∀ w : World, Calls Tryz.prog 30 #[.agg #[.bool s, .int .u64 (h' : Int), .int .u64 (l' : Int)]] w fun e w' => ∃ v, e = .returned v ∧ Bx w w' v (bytesA ⟨s, h', l'⟩) := fun w => by
      have := byt_ (w := w) ⟨s, h', l'⟩ HO2.out
      rwa [if_pos vb] at this
    have VA := Lib.hid va
    have VB := Lib.hid vb
    obtain ⟨X, hX⟩ : ∃ X, X = bytesA ⟨s, h, l⟩ := ⟨_, rfl⟩
    obtain ⟨Y, hY⟩ : ∃ Y, Y = bytesA ⟨s, h', l'⟩ := ⟨_, rfl⟩
    rw [← hX] at k36
    rw [← hY] at q36
    obtain ⟨nb, hnb⟩ : ∃ nb, nb = nby ⟨s, h, l⟩ := ⟨_, rfl⟩
    have HNB := Lib.hid hnb
    have hnb16 : nb ≤ 16 := by rw [hnb]; unfold nby; split <;> omega
    have HLX := Lib.hid (show X.length = nb by rw [hX, bytesA_len, hnb]; rfl)
    have HLY := Lib.hid (show Y.length = nb by rw [hY, bytesA_len, hnb]; rfl)
    have HXA := Lib.hid fun k (hk : k < nb) => (show X[k]? = some (byteA ⟨s, h, l⟩ k) by rw [hX]; exact bytesA_at (by rw [hnb] at hk; exact hk))
    have HYA := Lib.hid fun k (hk : k < nb) => (show Y[k]? = some (byteA ⟨s, h', l'⟩ k) by rw [hY]; exact bytesA_at (by rw [hnb] at hk; exact hk))
    have HX := Lib.hid hX
    have HY := Lib.hid hY
    clear c29 d29 va vb hX hY hnb
    go_enter Tryz.func16, Tryz.ntmps16
    unfold adV
    go_wp2_with fail
    have HA1 := Lib.hid ((Blk.new w 24 #[Value.bool s, Value.int .u64 (h : Int), Value.int .u64 (l : Int)]).alloc (.cells #[Value.bool s, Value.int .u64 (h' : Int), Value.int .u64 (l' : Int)] 24))
    have HA2 := Lib.hid (Blk.alloc2 w (.cells #[Value.bool s, Value.int .u64 (h : Int), Value.int .u64 (l : Int)] 24) 24 #[Value.bool s, Value.int .u64 (h' : Int), Value.int .u64 (l' : Int)])
    have HF1 := Lib.hid (Fr.alloc (Fr.alloc (Fr.refl N0 w) (.cells #[Value.bool s, Value.int .u64 (h : Int), Value.int .u64 (l : Int)] 24)) (.cells #[Value.bool s, Value.int .u64 (h' : Int), Value.int .u64 (l' : Int)] 24))
    generalize World.alloc (w.alloc _) _ = w1 at *
    obtain ⟨g2, hg2⟩ : ∃ g2, g2 = w.heap.size + 1 := ⟨_, rfl⟩
    rw [← hg2] at HA2 ⊢
    have HG2 : Hid (w.heap.size ≤ g2) := Lib.hid (by omega)
    obtain ⟨g1, hg1⟩ : ∃ g1, g1 = w.heap.size := ⟨_, rfl⟩
    rw [← hg1] at HA1 ⊢
    have HG1 : Hid (w.heap.size ≤ g1) := Lib.hid (by omega)
    have HN1_2 : Hid (g1 ≠ g2) := Lib.hid (by omega)
    clear hg1 hg2
    have HZ1 : Hid (∀ W, Fr N0 w1 W → Blk W g1 24 #[Value.bool s, Value.int .u64 (h : Int), Value.int .u64 (l : Int)]) := Lib.hid fun W hf => HA1.out.fr hf id
    have HZ2 : Hid (∀ W, Fr N0 w1 W → Blk W g2 24 #[Value.bool s, Value.int .u64 (h' : Int), Value.int .u64 (l' : Int)]) := Lib.hid fun W hf => HA2.out.fr hf id
    have F := Lib.hid (Fr.refl N0 w1)
    obtain ⟨z1_0, z1_1, z1_2⟩ := (HZ1.out _ F.out).c3
    obtain ⟨z2_0, z2_1, z2_2⟩ := (HZ2.out _ F.out).c3
    go_step3
    go_wp2_with (first
      | (go_at_call_of 27 l; refine (k29 _).mono ?_; rintro e w2 ⟨rfl, hf⟩; have F := Lib.hid (F.out.trans hf); obtain ⟨z1_0, z1_1, z1_2⟩ := (HZ1.out _ F.out).c3; obtain ⟨z2_0, z2_1, z2_2⟩ := (HZ2.out _ F.out).c3)
      | (go_at_call_of 27 l'; refine (q29 _).mono ?_; rintro e w3 ⟨rfl, hf⟩; have F := Lib.hid (F.out.trans hf); obtain ⟨z1_0, z1_1, z1_2⟩ := (HZ1.out _ F.out).c3; obtain ⟨z2_0, z2_1, z2_2⟩ := (HZ2.out _ F.out).c3))
    have HZA := Lib.hid fun (W : World) (hf : Fr N0 w3 W) => (HZ1.out W (F.out.trans hf)).c3
    have HZB := Lib.hid fun (W : World) (hf : Fr N0 w3 W) => (HZ2.out W (F.out.trans hf)).c3
    go_region_held3 (fun w' => (w'.cell? ⟨g1, 0, none⟩ = some (.bool s) ∧ w'.cell? ⟨g1, 1, none⟩ = some (.int .u64 (h : Int)) ∧ w'.cell? ⟨g1, 2, none⟩ = some (.int .u64 (l : Int))) ∧ (w'.cell? ⟨g2, 0, none⟩ = some (.bool s) ∧ w'.cell? ⟨g2, 1, none⟩ = some (.int .u64 (h' : Int)) ∧ w'.cell? ⟨g2, 2, none⟩ = some (.int .u64 (l' : Int)))) (first | go_keep | exact ⟨HZA.out _ F5.out, HZB.out _ F5.out⟩ | exact ⟨HZA.out _ F4.out, HZB.out _ F4.out⟩) ((first
      | (go_at_call_of 30 l; refine (k36 _).mono ?_; rintro e w4 ⟨v4, rfl, B4⟩; have F4 := Lib.hid (Fr.trans (by repeat first | exact Fr.refl _ _ | refine Fr.drew ?_ | refine Fr.drewN ?_ _) (show Fr N0 _ w4 from B4.choose_spec.choose_spec.2.2.2) : Fr N0 w3 w4))
      | (go_at_call_of 30 l'; refine (q36 _).mono ?_; rintro e w5 ⟨v5, rfl, B5⟩; have F5 := Lib.hid (F4.out.trans (show Fr N0 w4 w5 from B5.choose_spec.choose_spec.2.2.2)))))
    have B4' := B4.fr' (show Fr N0 w4 w5 from B5.choose_spec.choose_spec.2.2.2)
    obtain ⟨A, c, rfl, hO4, -, -⟩ := B4'
    obtain ⟨A', c', rfl, hO5, -, -⟩ := B5
    rw [HLX.out] at hO4 ⊢
    rw [HLY.out] at hO5 ⊢
    have O4 := Lib.hid hO4
    have O5 := Lib.hid hO5
    have HF5 := Lib.hid (HF1.out.trans (F.out.trans F5.out))
    clear hO4 hO5 B4 F4 F5 HZA HZB HZ1 HZ2 HA1 HA2
    go_wp2_with fail
    go_step3
    go_wp2_with fail
    go_loopw [5, 31] (fun v i wr => ∃ j : Nat, j ≤ nb ∧ i = .int .i64 (j : Int) ∧ v = .int .i64 (8 * (j : Int)) ∧ (∀ k, k < j → X[k]? = Y[k]?) ∧ Fr N0 w5 wr) (fun _ i _ => nb + 1 - (intOf i).toNat)
    case atStart => exact ⟨0, by omega, rfl, rfl, by omega, Fr.refl _ _⟩
    case round =>
      obtain ⟨j, hj, rfl, rfl, hE, hF⟩ := hrel
      have E1 := Lib.hid hE
      have G := Lib.hid hF
      clear hE hF
      by_cases hjn : j < nb
      · have hjI : (j : Int) < (nb : Int) := by omega
        have hj16 : (j : Int) ≤ 16 := by omega
        obtain ⟨x, hx⟩ : ∃ x, X[j]? = some x := ⟨_, List.getElem?_eq_getElem (by rw [HLX.out]; exact hjn)⟩
        obtain ⟨y, hy⟩ : ∃ y, Y[j]? = some y := ⟨_, List.getElem?_eq_getElem (by rw [HLY.out]; exact hjn)⟩
        obtain ⟨ga, rfl⟩ := O4.out.some_ (by omega)
        obtain ⟨gb, rfl⟩ := O5.out.some_ (by omega)
        have x0 := (O4.out.fr G.out fun _ _ => id).cell j (by omega)
        have y0 := (O5.out.fr G.out fun _ _ => id).cell j (by omega)
        rw [List.getElem?_map, hx] at x0
        rw [List.getElem?_map, hy] at y0
        replace x0 : wr.cell? ⟨ga, j, none⟩ = some (.int .u8 (x : Int)) := x0
        replace y0 : wr.cell? ⟨gb, j, none⟩ = some (.int .u8 (y : Int)) := y0
        have hx256 := Lib.hid (show x < 256 by
          have h1 := hx
          rw [HX.out] at h1
          obtain ⟨k, _, rfl⟩ := List.mem_map.1 (List.mem_of_getElem? h1)
          exact byteA_lt _ _)
        have hy256 := Lib.hid (show y < 256 by
          have h1 := hy
          rw [HY.out] at h1
          obtain ⟨k, _, rfl⟩ := List.mem_map.1 (List.mem_of_getElem? h1)
          exact byteA_lt _ _)
        have HXJ := Lib.hid hx
        have HYJ := Lib.hid hy
        clear hx hy
        by_cases hxy : x = y
        · subst hxy
          have hxor : bits .xor .u8 (x : Int) (x : Int) = 0 := by rw [xor_u8 x x hx256.out hx256.out, Nat.xor_self]; rfl
          have k37 : ∀ w : World, Calls Tryz.prog 31 #[.int .u8 0] w fun e w' => e = .returned (.int .i64 8) ∧ w' = w := fun w => by
            have := lz8 0 (by omega) w
            simpa [show Lib.bitLen 0 = 0 from rfl] using this
          go_wp2_with fail
          go_region
          go_wp2_with (go_at_call 31; refine (k37 _).mono ?_; rintro e w6 ⟨rfl, rfl⟩)
          go_roundw
          case rel =>
            have HE2 : ∀ k, k < j + 1 → X[k]? = Y[k]? := fun k hk => by
              rcases Nat.lt_or_ge k j with h | h
              · exact E1.out k h
              · obtain rfl : k = j := by omega
                rw [HXJ.out, HYJ.out]
            first | exact ⟨j + 1, by omega, by go_num, by go_num, HE2, G.out.drew⟩ | ((repeat apply Exists.intro); exact ⟨⟨j + 1, by omega, by go_num, by go_num, HE2, G.out.drew⟩, rfl⟩)
          case measure => simp [intOf]; omega
        · obtain ⟨d, hd⟩ : ∃ d, d = x ^^^ y := ⟨_, rfl⟩
          have hd256 : d < 256 := by
            have := Nat.xor_lt_two_pow (n := 8) (show x < 2 ^ 8 from hx256.out) (show y < 2 ^ 8 from hy256.out)
            rw [hd]; exact this
          have hd0 : d ≠ 0 := by rw [hd]; exact xor_ne hxy
          have hxor : bits .xor .u8 (x : Int) (y : Int) = (d : Int) := by rw [hd]; exact xor_u8 x y hx256.out hy256.out
          obtain ⟨L, hL⟩ : ∃ L, L = Lib.bitLen d := ⟨_, rfl⟩
          have hL8 : L ≤ 8 := by rw [hL]; exact Lib.bitLen_le _ 8 (by omega) hd256
          have hL1 : 1 ≤ L := by
            obtain ⟨b1, _, _⟩ := Lib.bitLenAux_bounds 64 d (Nat.lt_of_lt_of_le hd256 (by decide)) hd0
            rw [hL]; exact b1
          have hm8 : (8 : Int) - (L : Int) < 8 := by omega
          have k37 : ∀ w : World, Calls Tryz.prog 31 #[.int .u8 (d : Int)] w fun e w' => e = .returned (.int .i64 (8 - (L : Int))) ∧ w' = w := fun w => by
            have := lz8 d hd256 w
            rwa [← hL] at this
          have HD := Lib.hid hd
          have HL := Lib.hid hL
          have hdI : (d : Int) ≠ 0 := by omega
          have hdb : ((d : Int) != 0) = true := by rw [bne_iff_ne]; exact hdI
          clear hd hL
          go_wp2_with fail
          go_region
          go_wp2_with (go_at_call 31; refine (k37 _).mono ?_; rintro e w6 ⟨rfl, rfl⟩)
          rw [Exit.noGoto_ret]
          go_ret
          refine ⟨_, rfl, ?_, HF5.out.trans G.out.drew⟩
          unfold CmR
          rw [if_pos ⟨VA.out, VB.out, rfl⟩]
          refine ⟨8 * j + (8 - L), by omega, ?_⟩
          have hxe := HXA.out j hjn
          have hye := HYA.out j hjn
          rw [HXJ.out] at hxe
          rw [HYJ.out] at hye
          injection hxe with hxe
          injection hye with hye
          have := HX2.out VA.out VB.out (by trivial) j (by rw [← HNB.out]; exact hjn) (fun k hk => by
            have h1 := E1.out k hk
            rw [HXA.out k (by omega), HYA.out k (by omega)] at h1
            injection h1) (by rw [← hxe, ← hye]; exact hxy)
          rw [← hxe, ← hye, ← HD.out, ← HL.out] at this
          exact this
      · have hjI : ¬ (j : Int) < (nb : Int) := by omega
        go_wp2_with fail
        go_ret
        refine ⟨_, rfl, ?_, HF5.out.trans G.out⟩
        unfold CmR
        rw [if_pos ⟨VA.out, VB.out, rfl⟩]
        obtain rfl : j = nb := by omega
        refine ⟨widthA ⟨s, h, l⟩, by rw [nby_w, ← HNB.out]; omega, HX1.out VA.out VB.out (by trivial) fun k hk => ?_⟩
        rw [← HNB.out] at hk
        have h1 := E1.out k hk
        rw [HXA.out k hk, HYA.out k hk] at h1
        injection h1
  · refine key _ _ rfl rfl ?_
    have hbad : CmR ⟨s, h, l⟩ ⟨s', h', l'⟩ (-1) := by unfold CmR; rw [if_neg hgood]
    cases h1 : validA ⟨s, h, l⟩ with
    | false => exact .inl ⟨rfl, hbad⟩
    | true =>
      cases h2 : validA ⟨s', h', l'⟩ with
      | false => exact .inr (.inl ⟨rfl, rfl, hbad⟩)
      | true =>
        have h3 : ¬ s = s' := fun e => hgood ⟨h1, h2, e⟩
        exact .inr (.inr ⟨rfl, rfl, by simpa using h3, by simpa using h3, by simpa using h3, hbad⟩)
end
end Go.Proofs.YtcameghlkplgfaaGreatDoor
