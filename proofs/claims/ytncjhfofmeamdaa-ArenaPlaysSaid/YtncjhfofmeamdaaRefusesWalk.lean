/- ArenaRefuses answers true. -/
import Derived.Test.YtncjhfofmeamdaaAwk
namespace Go.Proofs.Ytncjhfofmeamdaa
open Go.RowKit

theorem pk_nat (x : Int) (m : Nat) (hm : 1 ≤ m) : ∃ v : Nat, v < m ∧ pk x (m : Int) = v := by
  unfold pk
  rw [if_neg (by omega)]
  have h1 := Int.emod_nonneg (if x < 0 then -(x + 1) else x) (show ((m : Int)) ≠ 0 by omega)
  have h2 := Int.emod_lt_of_pos (if x < 0 then -(x + 1) else x) (show 0 < (m : Int) by omega)
  exact ⟨((if x < 0 then -(x + 1) else x) % (m : Int)).toNat, by omega, by omega⟩
theorem Fit.le_great {n : Nat} {T : Tk} {o k a : Nat} {g : Int} (h : Fit n T o k a) (hg : Great n T g) : (o : Int) ≤ g := by
  rcases (by omega : g < (k : Int) ∨ (k : Int) ≤ g) with h1 | h1
  · exact absurd h.2.2.2.1 (hg.2.2.1 k h.2.1 h1 a)
  · have := h.1
    omega
theorem NoFit.gt_great {n : Nat} {T : Tk} {o : Nat} {g : Int} (h : NoFit n T o) (hg : Great n T g) : g < (o : Int) := by
  rcases (by omega : g < (o : Int) ∨ (o : Int) ≤ g) with h1 | h1
  · exact h1
  · obtain ⟨x, hx⟩ := hg.2.2.2 (by omega)
    exact absurd hx (h g.toNat (by omega) (by have := hg.2.1; omega) x)

set_option maxRecDepth 100000 in
set_option maxHeartbeats 3200000 in
theorem refuses_any (w : World) (order : Int) (ho1 : -9223372036854775808 ≤ order) (ho2 : order ≤ 9223372036854775807)
    (A : Option Addr) (len cap : Nat) (hrd : Rd Try.prog w 22 [.slice A len cap]) (_hs : len * Try.prog.bytesOf 32 ≤ 140737488351232)
    (x : Int) (hx1 : -9223372036854775808 ≤ x) (hx2 : x ≤ 9223372036854775807) :
    Calls Try.prog 7 #[.int .i64 order, .slice A len cap, .int .i64 x] w fun e w' => e = .returned (.bool true) ∧ Below w.heap.size w w' := by
  obtain ⟨HST0, hlen⟩ := steps_in hrd
  clear hrd
  have HST := Lib.hid HST0
  clear HST0
  go_enter Try.func7, Try.ntmps7
  go_wp2_with fail
  refine (awake_any _).mono ?_
  rintro e w1 ⟨rfl, hB1⟩
  have B1 := Lib.hid hB1
  have HS1 := Lib.hid (HST.out.below hB1)
  clear hB1
  go_wp2_with fail
  refine (pick_any w1 order 9 ho1 ho2 (by omega) (by omega)).mono ?_
  rintro e w2 ⟨rfl, rfl⟩
  obtain ⟨n, hn, hpk⟩ := pk_nat order 9 (by omega)
  rw [show (9 : Int) = ((9 : Nat) : Int) from rfl, hpk]
  go_wp2_with fail
  refine (made_ok w1 n (by omega) A len cap HS1.out hlen).mono ?_
  rintro e w2 ⟨b, T, rfl, _, hL, hF⟩
  have L2 := Lib.hid (hL.mono (S' := fun i => w.heap.size ≤ i) fun i h => Nat.le_trans B1.out.size h)
  have B2 := Lib.hid (below_fr B1.out hF B1.out.size fun _ h => h.elim)
  clear hL hF
  go_wp2_with fail
  refine (L2.out.taken).mono ?_
  rintro e w3 ⟨g3, c3, l3, rfl, hl, hr, _, f3⟩
  have L3 := Lib.hid (L2.out.fr0 f3)
  have B3 := Lib.hid (below_fr B2.out f3 B2.out.size fun _ h => h.elim)
  have R3 := Lib.hid hr
  have HL3 := Lib.hid hl
  have HT16 := Lib.hid (show l3.length ≤ 65536 by rw [hl]; exact L3.out.len16)
  clear hr f3 hl
  go_wp2_with fail
  refine (L3.out.free).mono ?_
  rintro e w4 ⟨rfl, rfl⟩
  go_wp2_with fail
  obtain ⟨g, hg⟩ := L3.out.great
  have HG := Lib.hid hg
  refine (L3.out.greatest hg).mono ?_
  rintro e w4 ⟨rfl, rfl⟩
  clear hg
  go_wp2_with fail
  by_cases hx : x < 0 ∨ (n : Int) < x
  · refine (L3.out.take_arg x hx).mono ?_
    rintro e w4 ⟨rfl, rfl⟩
    go_wp2_with fail
    refine (L3.out.taken).mono ?_
    rintro e w5 ⟨g5, c5, l5, rfl, hl, hr, _, f5⟩
    have L5 := Lib.hid (L3.out.fr0 f5)
    have B5 := Lib.hid (below_fr B3.out f5 B3.out.size fun _ h => h.elim)
    have R5 := Lib.hid hr
    have R35 := Lib.hid (R3.out.fr0 f5)
    have e53 : l5 = l3 := by rw [HL3.out, hl]
    subst e53
    clear hr f5 hl
    go_wp2_with fail
    refine (same_ints R5.out R35.out rfl rfl (by have := HT16.out; omega) true (by simp)).mono ?_
    rintro e w6 ⟨rfl, k6, rfl⟩
    have L6 := Lib.hid (L5.out.fr0 ((Fr.refl _ _).drewN k6))
    have B6 := Lib.hid (below_fr B5.out ((Fr.refl (fun _ => False) w5).drewN k6) B5.out.size fun _ h => h.elim)
    generalize w5.drewN k6 = w6 at *
    have hx' : (decide (x < 0) || decide ((n : Int) < x)) = true := by simpa using hx
    by_cases hx0 : x < 0
    · clear hx hx'
      go_wp2_with fail
      refine (L6.out.free).mono ?_
      rintro e w7 ⟨rfl, rfl⟩
      go_wp2_with fail
      refine (L6.out.greatest HG.out).mono ?_
      rintro e w7 ⟨rfl, rfl⟩
      go_wp2_with fail
      go_ret
      exact ⟨rfl, B6.out⟩
    · have hx1' : (n : Int) < x := by omega
      clear hx hx'
      go_wp2_with fail
      refine (L6.out.free).mono ?_
      rintro e w7 ⟨rfl, rfl⟩
      go_wp2_with fail
      refine (L6.out.greatest HG.out).mono ?_
      rintro e w7 ⟨rfl, rfl⟩
      go_wp2_with fail
      go_ret
      exact ⟨rfl, B6.out⟩
  · obtain ⟨o, rfl⟩ : ∃ o : Nat, x = o := ⟨x.toNat, by omega⟩
    have hon : o ≤ n := by omega
    have honI : (o : Int) ≤ (n : Int) := by omega
    have honI2 : ¬ (n : Int) < (o : Int) := by omega
    have ho0 : (0 : Int) ≤ (o : Int) := by omega
    have ho0' : ¬ (o : Int) < 0 := by omega
    clear hx
    rcases L3.out.fit hon with hno | ⟨k, a, hfit⟩
    · have hgo : g < (o : Int) := hno.gt_great HG.out
      refine (L3.out.take_no o hon hno).mono ?_
      rintro e w4 ⟨rfl, rfl⟩
      clear hno
      go_wp2_with fail
      refine (L3.out.taken).mono ?_
      rintro e w5 ⟨g5, c5, l5, rfl, hl, hr, _, f5⟩
      have L5 := Lib.hid (L3.out.fr0 f5)
      have B5 := Lib.hid (below_fr B3.out f5 B3.out.size fun _ h => h.elim)
      have R5 := Lib.hid hr
      have R35 := Lib.hid (R3.out.fr0 f5)
      have e53 : l5 = l3 := by rw [HL3.out, hl]
      subst e53
      clear hr f5 hl
      go_wp2_with fail
      refine (same_ints R5.out R35.out rfl rfl (by have := HT16.out; omega) true (by simp)).mono ?_
      rintro e w6 ⟨rfl, k6, rfl⟩
      have L6 := Lib.hid (L5.out.fr0 ((Fr.refl _ _).drewN k6))
      have B6 := Lib.hid (below_fr B5.out ((Fr.refl (fun _ => False) w5).drewN k6) B5.out.size fun _ h => h.elim)
      generalize w5.drewN k6 = w6 at *
      go_wp2_with fail
      refine (L6.out.free).mono ?_
      rintro e w7 ⟨rfl, rfl⟩
      go_wp2_with fail
      refine (L6.out.greatest HG.out).mono ?_
      rintro e w7 ⟨rfl, rfl⟩
      go_wp2_with fail
      go_ret
      exact ⟨rfl, B6.out⟩
    · have hgo : (o : Int) ≤ g := hfit.le_great HG.out
      have hak := Lib.hid (show a ≤ 65536 by have := hfit.2.2.2.1.lt; have := pow16 L3.out.1; omega)
      refine (L3.out.take hfit).mono ?_
      rintro e w4 ⟨rfl, hL4, f4⟩
      have L4 := Lib.hid (hL4.mono (S' := fun i => w.heap.size ≤ i) fun i h => h.elim id fun h => Nat.le_trans B3.out.size h)
      have B4 := Lib.hid (below_fr B3.out f4 B3.out.size fun _ h => h)
      have HO := Lib.hid (show ordAt (T ++ [(a, o)]) (a : Int) = (o : Int) from ordAt_some hL4.2.1.keys (p := (a, o)) (by simp))
      have HZ := Lib.hid (show sizes (T ++ [(a, o)]) = sizes T + 2 ^ o by simp [sizes])
      have HZ2 := Lib.hid (show sizes (T ++ [(a, o)]) ≤ 2 ^ n by obtain ⟨_, _, m, fb, A, c, f, _, _, h5, _⟩ := hL4; omega)
      have HP := Lib.hid (pow16 (Nat.le_trans hon L3.out.1))
      have HPn := Lib.hid (pow16 L3.out.1)
      clear hL4 f4 hfit
      go_wp2_with fail
      refine (L4.out.order (a : Int) (by omega) (by have := hak.out; omega)).mono ?_
      rintro e w5 ⟨rfl, rfl⟩
      rw [HO.out]
      go_wp2_with fail
      refine (L4.out.free).mono ?_
      rintro e w5 ⟨rfl, rfl⟩
      go_wp2_with fail
      refine (power_any w4 o (by omega)).mono ?_
      rintro e w5 ⟨rfl, rfl⟩
      have hq : ((2 ^ n - sizes (T ++ [(a, o)]) : Nat) : Int) = wrap64 (((2 ^ n - sizes T : Nat) : Int) - 2 ^ o) := by
        have h1 := HZ.out
        have h2 := HZ2.out
        have h3 := HP.out
        have h4 := HPn.out
        have h5 := p2 o
        rw [show (2 : Int) ^ o = ((2 ^ o : Nat) : Int) by simp]
        unfold wrap64
        omega
      go_wp2_with fail
      clear hq
      refine (L4.out.taken).mono ?_
      rintro e w5 ⟨g5, c5, l5, rfl, hl, hr, _, f5⟩
      have B5 := Lib.hid (below_fr B4.out f5 B4.out.size fun _ h => h.elim)
      have hlen5 : (l5.length : Int) = (l3.length : Int) + 1 := by
        rw [hl, HL3.out, sortL_len, sortL_len]
        simp
      have hw5 : wrap64 ((l3.length : Int) + 1) = (l3.length : Int) + 1 := by
        have := HT16.out
        unfold wrap64
        omega
      clear hr f5 hl
      go_wp2_with fail
      go_ret
      exact ⟨rfl, B5.out⟩
end Go.Proofs.Ytncjhfofmeamdaa
