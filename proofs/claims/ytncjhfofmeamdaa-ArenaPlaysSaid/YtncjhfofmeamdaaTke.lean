/- Take. -/
import Derived.Test.YtncjhfofmeamdaaRel
import Derived.Test.YtncjhfofmeamdaaFre
import Derived.Test.YtncjhfofmeamdaaGv
import Derived.BigRegion
namespace Go.Proofs.Ytncjhfofmeamdaa
open Go.RowKit

theorem ArE.fr0 {w w1 w2 : World} {b m fb n : Nat} {A : Nat → Option Addr} {f : Nat → List Nat} {T : List (Nat × Nat)} (h : ArE w b m fb n A f T w1) (k : Fr (fun _ => False) w1 w2) : ArE w b m fb n A f T w2 := by
  obtain ⟨A', c', h1, h2, h3⟩ := h
  exact ⟨A', c', h1.fr0 k, h2.step k fun _ h => h.elim, h3⟩
theorem ArE.trans {w w1 w2 : World} {b m fb n : Nat} {A A1 : Nat → Option Addr} {f2 : Nat → List Nat} {T2 : List (Nat × Nat)} (hf : Fr (Af b m fb n A) w w1) (hn : ∀ i, Af b m fb n A1 i → Af b m fb n A i ∨ w.heap.size ≤ i) (h : ArE w1 b m fb n A1 f2 T2 w2) : ArE w b m fb n A f2 T2 w2 := by
  obtain ⟨A', c', h1, h2, h3⟩ := h
  exact ⟨A', c', h1, hf.step h2 hn, fun i hi => (h3 i hi).elim (hn i) fun h => .inr (Nat.le_trans hf.size h)⟩
theorem take_step (f : Nat → List Nat) (a k1 k : Nat) (h : k1 < k) : upd (take' f a (k1 + 1) k) k1 [a + 2 ^ k1] = take' f a k1 k := by
  funext j
  unfold upd take'
  by_cases e : j = k1
  · subst e; rw [if_pos rfl, if_neg (by omega), if_pos ⟨Nat.le_refl _, h⟩]
  · rw [if_neg e]
    by_cases e2 : j = k
    · rw [if_pos e2, if_pos e2]
    · rw [if_neg e2, if_neg e2]
      by_cases e3 : k1 + 1 ≤ j ∧ j < k
      · rw [if_pos e3, if_pos (by omega)]
      · rw [if_neg e3, if_neg (by omega)]
theorem take_first (f : Nat → List Nat) (a k : Nat) {r : List Nat} (hk : f k = a :: r) : upd f k r = take' f a k k := by
  funext j
  unfold upd take'
  by_cases e : j = k
  · subst e; rw [if_pos rfl, if_pos rfl, hk]; rfl
  · rw [if_neg e, if_neg e, if_neg (by omega)]
theorem insL_nil (x : Nat) : insL [] x = [x] := rfl

section
variable {w : World} {b m fb n : Nat} {A : Nat → Option Addr} {c : Nat → Nat} {f : Nat → List Nat} {T : List (Nat × Nat)}
set_option maxHeartbeats 1600000 in
theorem take_arg (h : Ar w b m fb n A c f T) (o : Int) (ho : o < 0 ∨ (n : Int) < o) : Calls Try.prog 15 #[.pointer (some ⟨b, 0, none⟩), .int .i64 o] w fun e w' => e = .returned (.tuple #[.int .i64 0, .int .i64 1]) ∧ w = w' := by
  have b0 := h.cord
  clear h
  by_cases h1 : o < 0
  · clear ho
    go_enter Try.func15, Try.ntmps15
    go_wp2_with fail
    go_ret2
    exact ⟨rfl, rfl⟩
  · have h2 : (n : Int) < o := by omega
    clear ho
    go_enter Try.func15, Try.ntmps15
    go_wp2_with fail
    go_ret2
    exact ⟨rfl, rfl⟩
set_option maxRecDepth 100000 in
set_option maxHeartbeats 1600000 in
theorem take_full (h : Ar w b m fb n A c f T) (hn : n ≤ 16) (o : Nat) (ho : o ≤ n) (he : ∀ j, o ≤ j → j ≤ n → f j = []) : Calls Try.prog 15 #[.pointer (some ⟨b, 0, none⟩), .int .i64 (o : Int)] w fun e w' => e = .returned (.tuple #[.int .i64 0, .int .i64 90]) ∧ w = w' := by
  have b0 := h.cord
  have b2 := h.cfree
  have H := Lib.hid h
  have HE := Lib.hid he
  have hoI : (o : Int) ≤ (n : Int) := by omega
  clear h he
  go_enter Try.func15, Try.ntmps15
  go_wp2_with fail
  go_loop [6] (fun i => ∃ j : Nat, o ≤ j ∧ j ≤ n + 1 ∧ i = .int .i64 (j : Int)) (fun i => 20 - (intOf i).toNat)
  case atStart => exact ⟨o, Nat.le_refl _, by omega, rfl⟩
  case round =>
    obtain ⟨j, hj1, hj2, rfl⟩ := hrel
    by_cases hjn : j ≤ n
    · have r0 := H.out.crow hjn
      have hfl : (f j).length = 0 := by rw [HE.out j hj1 hjn]; rfl
      rw [hfl] at r0
      have hjI : (j : Int) ≤ (n : Int) := by omega
      have hjI2 : (j : Int) < (n : Int) + 1 := by omega
      clear hfl
      go_wp2_with fail
      go_round
      case rel => exact ⟨j + 1, by omega, by omega, by go_num⟩
      case measure => simp [intOf]; omega
    · have hjI : (n : Int) < (j : Int) := by omega
      go_wp2_with fail
      go_ret2
      exact ⟨rfl, rfl⟩
/-- What a taking leaves. -/
def TakeE (w : World) (b m fb n : Nat) (A : Nat → Option Addr) (f : Nat → List Nat) (T : List (Nat × Nat)) (a o k : Nat) (e : Ending) (w' : World) : Prop :=
  e = .returned (.tuple #[.int .i64 (a : Int), .int .i64 0]) ∧ ArE w b m fb n A (take' f a o k) (T ++ [(a, o)]) w'
set_option maxRecDepth 100000 in
set_option maxHeartbeats 3200000 in
theorem take_ok (h : Ar w b m fb n A c f T) (hn : n ≤ 16) (o k : Nat) (hok : o ≤ k) (hkn : k ≤ n) (he : ∀ j, o ≤ j → j < k → f j = []) {a : Nat} {r : List Nat} (hk : f k = a :: r) (han : a + 2 ^ k ≤ 65536) (hnew : ∀ p, p ∈ T → p.1 ≠ a) :
    Calls Try.prog 15 #[.pointer (some ⟨b, 0, none⟩), .int .i64 (o : Int)] w (TakeE w b m fb n A f T a o k) := by
  have b0 := h.cord
  have b2 := h.cfree
  have rk := h.crow hkn
  have hrow := h.row k hkn
  rw [hk] at rk hrow
  obtain ⟨g, off, hA⟩ := hrow.some_ (by simp)
  rw [hA] at rk hrow
  have ca := hrow.cell (j := 0) (x := a) rfl
  have hcl := hrow.len_le
  have H := Lib.hid h
  have HE := Lib.hid he
  have HK := Lib.hid hk
  have HA := Lib.hid hA
  have HROW := Lib.hid hrow
  have HNEW := Lib.hid hnew
  have hoI : (o : Int) ≤ (n : Int) := by omega
  have hkI : (k : Int) ≤ (n : Int) := by omega
  have hkI2 : (k : Int) < (n : Int) + 1 := by omega
  have zf := h.frow k
  have hlb := h.lt
  have hlf := h.ltf
  have hbf := h.bf
  simp only [List.length_cons, Nat.add_zero] at rk ca hcl
  clear h he hk hA hrow hnew
  go_enter Try.func15, Try.ntmps15
  go_wp2_with fail
  go_loop [6] (fun i => ∃ j : Nat, o ≤ j ∧ j ≤ k ∧ i = .int .i64 (j : Int)) (fun i => 20 - (intOf i).toNat)
  case atStart => exact ⟨o, Nat.le_refl _, by omega, rfl⟩
  case round =>
    obtain ⟨j, hj1, hj2, rfl⟩ := hrel
    by_cases hjn : j < k
    · have r0 := H.out.crow (show j ≤ n by omega)
      have hfl : (f j).length = 0 := by rw [HE.out j hj1 hjn]; rfl
      rw [hfl] at r0
      have hjI : (j : Int) ≤ (n : Int) := by omega
      have hjI2 : (j : Int) < (n : Int) + 1 := by omega
      clear hfl
      go_wp2_with fail
      go_round
      case rel => exact ⟨j + 1, by omega, by omega, by go_num⟩
      case measure => simp [intOf]; omega
    · obtain rfl : j = k := by omega
      have hf0 : Fr (fun i => ∃ o, A j = some ⟨i, o, none⟩) w w := Fr.refl _ _
      have hf0 : Fr (fun i => ∃ o, A j = some ⟨i, o, none⟩) w w := Fr.refl _ _
      have hf0 : Fr (fun i => ∃ o, A j = some ⟨i, o, none⟩) w w := Fr.refl _ _
      have hf0 : Fr (fun i => ∃ o, A j = some ⟨i, o, none⟩) w w := Fr.refl _ _
      by_cases hc1 : c j = 1
      · have hr0 : r = [] := List.length_eq_zero_iff.1 (by omega)
        subst hr0
        have hP := H.out.put hkn hf0 (HROW.out.tail1 off 0 (by omega) (by omega)) (fun g' o' e => .inl ⟨off, by rw [HA.out]; rw [Option.some.injEq, Addr.mk.injEq] at e ⊢; exact ⟨e.1, rfl, rfl⟩⟩)
        have hafu := af_upd (b := b) (m := m) (fb := fb) (A := A) (A0 := A) (S := fun i => w.heap.size ≤ i) (g' := g) (o' := off) hkn (fun i hi => .inl hi) (.inl ⟨off, HA.out⟩)
        rw [take_first f a j HK.out] at hP
        have hY : ArE w b m fb n A (take' f a j j) T (w.setCell ⟨fb, j, none⟩ (.slice (some ⟨g, off, none⟩) 0 0)).drew := ⟨_, _, hP.fr0 (Fr.refl _ _).drew, ((Fr.refl _ w).setCell (.inl (.inr (.inr (.inl rfl)))) _).drew, hafu⟩
        have HY := Lib.hid hY
        rw [hc1] at rk
        simp only [List.length_nil, Nat.zero_add] at rk
        clear hP hY hafu hf0
        go_wp2_with fail
        go_region
        clear rk ca zf b2 b0
        generalize (w.setCell ⟨fb, j, none⟩ (.slice (some ⟨g, off, none⟩) 0 0)).drew = W at *
        go_wp2_with fail
        go_loopw [6] (fun i wr => ∃ kk : Nat, o ≤ kk ∧ kk ≤ j ∧ i = .int .i64 (kk : Int) ∧ ArE w b m fb n A (take' f a kk j) T wr) (fun i _ => (intOf i).toNat)
        case atStart => exact ⟨j, hok, Nat.le_refl _, rfl, HY.out⟩
        case round =>
          obtain ⟨kk, hk1, hk2, rfl, hM⟩ := hrel
          clear HY
          by_cases hko : o < kk
          · obtain ⟨k1, rfl⟩ : ∃ k1, kk = k1 + 1 := ⟨kk - 1, by omega⟩
            obtain ⟨A1, c1, h1, f1, n1⟩ := hM
            have hrow1 : take' f a (k1 + 1) j k1 = [] := by
              unfold take'
              rw [if_neg (by omega), if_neg (by omega)]
              exact HE.out k1 (by omega) (by omega)
            have HREL := Lib.hid (rel_any h1 (k := k1) (by omega) (by rw [hrow1]; exact List.Pairwise.nil) (by rw [hrow1]; simp) (a + 2 ^ k1))
            have HROW1 := Lib.hid hrow1
            have HF1 := Lib.hid f1
            have HN1 := Lib.hid n1
            have hpw : 2 ^ k1 ≤ 2 ^ j := Nat.pow_le_pow_right (by omega) (by omega)
            have e1 : ((2 ^ k1 : Nat) : Int) = (2 : Int) ^ k1 := Int.natCast_pow 2 k1
            have hp1 : (0 : Int) ≤ (2 : Int) ^ k1 := e1 ▸ Int.natCast_nonneg _
            have hp2 : (2 : Int) ^ k1 ≤ 65536 := by omega
            have hp3 : (a : Int) + (2 : Int) ^ k1 ≤ 65536 := by omega
            have HE1 := Lib.hid (show (a : Int) + (2 : Int) ^ k1 = ((a + 2 ^ k1 : Nat) : Int) by rw [Int.natCast_add, e1])
            have hki : (k1 : Int) < 64 := by omega
            have hko2 : (o : Int) < (k1 : Int) + 1 := by omega
            clear hrow1 f1 n1 h1 e1 hpw
            go_wp2_with fail
            rw [HE1.out]
            refine HREL.out.mono ?_
            rintro e w3 ⟨rfl, hR⟩
            rw [HROW1.out, insL_nil, take_step f a k1 j (by omega)] at hR
            have HR := Lib.hid (ArE.trans HF1.out HN1.out hR)
            rw [← HE1.out]
            clear hR
            go_wp2_with fail
            go_roundw
            case rel => exact ⟨k1, by omega, by omega, by first | rfl | go_num, HR.out⟩
            case measure => simp [intOf]
          · obtain rfl : kk = o := by omega
            obtain ⟨A1, c1, h1, f1, n1⟩ := hM
            have b1 := h1.cmap
            have HAR := Lib.hid h1
            have HF1 := Lib.hid f1
            have HN1 := Lib.hid n1
            have hm1 := h1.map
            have hno := absent (T := T) (a := (a : Int)) (fun p hp e => HNEW.out p hp (by omega))
            clear h1 f1 n1 hko
            have ha6 : a ≤ 65536 := Nat.le_trans (Nat.le_add_right _ _) han
            go_wp2_with (at_mapUpdate; refine wpList_store_new _ rfl _ _ _ 48 rfl 3 3 keyed3 Try.underlying48 kfI kfN m _ hm1 rfl (a : Int) rfl kk rfl _ (key3 _ (by omega) (by omega)) hno ?_)
            intro w4 hm4 f4 s4
            have hfin : ArE w b m fb n A (take' f a kk j) (T ++ [(a, kk)]) w4 := ⟨A1, c1, HAR.out.remap f4 (by unfold mkT at hm4 ⊢; rw [List.map_append]; exact hm4), HF1.out.step f4 fun i hi => by subst hi; exact .inl (.inr (.inl rfl)), HN1.out⟩
            have HFIN := Lib.hid hfin
            clear hfin hm4 f4 s4 hm1 hno b1
            go_wp2_with fail
            go_ret2
            exact ⟨rfl, HFIN.out⟩
      · have hP := H.out.put hkn hf0 (HROW.out.tail) (fun g' o' e => .inl ⟨off, by rw [HA.out]; rw [Option.some.injEq, Addr.mk.injEq] at e ⊢; exact ⟨e.1, rfl, rfl⟩⟩)
        have hafu := af_upd (b := b) (m := m) (fb := fb) (A := A) (A0 := A) (S := fun i => w.heap.size ≤ i) (g' := g) (o' := off + 1) hkn (fun i hi => .inl hi) (.inl ⟨off, HA.out⟩)
        rw [take_first f a j HK.out] at hP
        have hY : ArE w b m fb n A (take' f a j j) T (w.setCell ⟨fb, j, none⟩ (.slice (some ⟨g, off + 1, none⟩) r.length (c j - 1))).drew := ⟨_, _, hP.fr0 (Fr.refl _ _).drew, ((Fr.refl _ w).setCell (.inl (.inr (.inr (.inl rfl)))) _).drew, hafu⟩
        have HY := Lib.hid hY
        clear hP hY hafu hf0
        go_wp2_with fail
        go_region
        clear rk ca zf b2 b0
        generalize (w.setCell ⟨fb, j, none⟩ (.slice (some ⟨g, off + 1, none⟩) r.length (c j - 1))).drew = W at *
        go_wp2_with fail
        go_loopw [6] (fun i wr => ∃ kk : Nat, o ≤ kk ∧ kk ≤ j ∧ i = .int .i64 (kk : Int) ∧ ArE w b m fb n A (take' f a kk j) T wr) (fun i _ => (intOf i).toNat)
        case atStart => exact ⟨j, hok, Nat.le_refl _, rfl, HY.out⟩
        case round =>
          obtain ⟨kk, hk1, hk2, rfl, hM⟩ := hrel
          clear HY
          by_cases hko : o < kk
          · obtain ⟨k1, rfl⟩ : ∃ k1, kk = k1 + 1 := ⟨kk - 1, by omega⟩
            obtain ⟨A1, c1, h1, f1, n1⟩ := hM
            have hrow1 : take' f a (k1 + 1) j k1 = [] := by
              unfold take'
              rw [if_neg (by omega), if_neg (by omega)]
              exact HE.out k1 (by omega) (by omega)
            have HREL := Lib.hid (rel_any h1 (k := k1) (by omega) (by rw [hrow1]; exact List.Pairwise.nil) (by rw [hrow1]; simp) (a + 2 ^ k1))
            have HROW1 := Lib.hid hrow1
            have HF1 := Lib.hid f1
            have HN1 := Lib.hid n1
            have hpw : 2 ^ k1 ≤ 2 ^ j := Nat.pow_le_pow_right (by omega) (by omega)
            have e1 : ((2 ^ k1 : Nat) : Int) = (2 : Int) ^ k1 := Int.natCast_pow 2 k1
            have hp1 : (0 : Int) ≤ (2 : Int) ^ k1 := e1 ▸ Int.natCast_nonneg _
            have hp2 : (2 : Int) ^ k1 ≤ 65536 := by omega
            have hp3 : (a : Int) + (2 : Int) ^ k1 ≤ 65536 := by omega
            have HE1 := Lib.hid (show (a : Int) + (2 : Int) ^ k1 = ((a + 2 ^ k1 : Nat) : Int) by rw [Int.natCast_add, e1])
            have hki : (k1 : Int) < 64 := by omega
            have hko2 : (o : Int) < (k1 : Int) + 1 := by omega
            clear hrow1 f1 n1 h1 e1 hpw
            go_wp2_with fail
            rw [HE1.out]
            refine HREL.out.mono ?_
            rintro e w3 ⟨rfl, hR⟩
            rw [HROW1.out, insL_nil, take_step f a k1 j (by omega)] at hR
            have HR := Lib.hid (ArE.trans HF1.out HN1.out hR)
            rw [← HE1.out]
            clear hR
            go_wp2_with fail
            go_roundw
            case rel => exact ⟨k1, by omega, by omega, by first | rfl | go_num, HR.out⟩
            case measure => simp [intOf]
          · obtain rfl : kk = o := by omega
            obtain ⟨A1, c1, h1, f1, n1⟩ := hM
            have b1 := h1.cmap
            have HAR := Lib.hid h1
            have HF1 := Lib.hid f1
            have HN1 := Lib.hid n1
            have hm1 := h1.map
            have hno := absent (T := T) (a := (a : Int)) (fun p hp e => HNEW.out p hp (by omega))
            clear h1 f1 n1 hko
            have ha6 : a ≤ 65536 := Nat.le_trans (Nat.le_add_right _ _) han
            go_wp2_with (at_mapUpdate; refine wpList_store_new _ rfl _ _ _ 48 rfl 3 3 keyed3 Try.underlying48 kfI kfN m _ hm1 rfl (a : Int) rfl kk rfl _ (key3 _ (by omega) (by omega)) hno ?_)
            intro w4 hm4 f4 s4
            have hfin : ArE w b m fb n A (take' f a kk j) (T ++ [(a, kk)]) w4 := ⟨A1, c1, HAR.out.remap f4 (by unfold mkT at hm4 ⊢; rw [List.map_append]; exact hm4), HF1.out.step f4 fun i hi => by subst hi; exact .inl (.inr (.inl rfl)), HN1.out⟩
            have HFIN := Lib.hid hfin
            clear hfin hm4 f4 s4 hm1 hno b1
            go_wp2_with fail
            go_ret2
            exact ⟨rfl, HFIN.out⟩
end
end Go.Proofs.Ytncjhfofmeamdaa
