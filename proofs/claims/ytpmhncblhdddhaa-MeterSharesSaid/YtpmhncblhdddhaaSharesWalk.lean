/- MeterShares, walked. -/
import Derived.Test.YtpmhncblhdddhaaAwake
import Derived.Test.YtpmhncblhdddhaaFlt
namespace Go.Proofs.Ytpmhncblhdddhaa
open Go.RowKit

/-- A whole number below 2^52, out of any int. -/
def few (a : Int) : Nat := (if a < 0 then (-(a + 1)) % 4503599627370496 else a % 4503599627370496).toNat
theorem few_lt (a : Int) : few a < 4503599627370496 := by unfold few; split <;> omega

theorem few_any (a : Int) (w : World) (h1 : -9223372036854775808 ≤ a) (h2 : a ≤ 9223372036854775807) :
    Calls Try.prog 8 #[.int .i64 a] w fun e w' => e = .returned (.float .f64 (fl (few a))) ∧ w = w' := by
  have hfl : ∀ n : Nat, floatOfInt .f64 (n : Int) = fl n := fun n => by
    unfold floatOfInt FloatKind.nearest FloatKind.encode Ieee.Format.write fl
    have : decide ((n : Int) < 0) = false := by simp
    rw [this]
    rfl
  by_cases h : a < 0
  · have hf : few a = ((-(a + 1)) % 4503599627370496).toNat := by unfold few; rw [if_pos h]
    have hv : -(a + 1).tmod 4503599627370496 = ((few a : Nat) : Int) := by
      rw [hf, ← Int.neg_tmod, Int.tmod_eq_emod_of_nonneg (by omega)]
      omega
    have H := Lib.hid hfl
    have HV := Lib.hid hv
    clear hf hv hfl
    go_enter Try.func8, Try.ntmps8
    go_wp2
    go_ret
    refine ⟨?_, rfl⟩
    show Ending.returned (Value.float FloatKind.f64 (floatOfInt FloatKind.f64 (-(a + 1).tmod 4503599627370496))) = _
    rw [HV.out, H.out]
  · have hf : few a = (a % 4503599627370496).toNat := by unfold few; rw [if_neg h]
    have hv : a % 4503599627370496 = ((few a : Nat) : Int) := by rw [hf]; omega
    have H := Lib.hid hfl
    have HV := Lib.hid hv
    clear hf hv hfl
    go_enter Try.func8, Try.ntmps8
    go_wp2
    go_ret
    refine ⟨?_, rfl⟩
    show Ending.returned (Value.float FloatKind.f64 (floatOfInt FloatKind.f64 (a % 4503599627370496))) = _
    rw [HV.out, H.out]

/-- What the law wants of one pair of parts: the sum, the shares of both of it, the share of the first of itself. -/
def Ov (X Z q : Nat) : Prop := ∀ W, Calls Try.prog 20 #[.float .f64 X, .float .f64 Z] W fun e w' => e = .returned (.float .f64 q) ∧ W = w'

theorem ord_same : (FloatKind.f64.format.order 0 0 == some Ordering.eq) = true := by decide

theorem ov_zero (X : Nat) (n : Nat) (h : n < 2 ^ 53) (h0 : n = 0) : Ov X (fl n) 0 := fun W => over_zero X (fl n) W (by have := order_zero n h; rw [decide_eq_true h0] at this; exact this)
theorem ov_quo (m n q : Nat) (h : n < 2 ^ 53) (h0 : n ≠ 0) (hq : Ieee.double.div (fl m) (fl n) = some q) : Ov (fl m) (fl n) q :=
  fun W => over_quo (fl m) (fl n) q W (by have := order_zero n h; rw [decide_eq_false h0] at this; exact this) (fun W => run_float_arith W .quo 23 .f64 _ _ _ hq)

structure Pair (x y s t u : Nat) : Prop where
  add : ∀ W, (binOp .add 23 (.float .f64 (fl x)) (.float .f64 (fl y))).run Try.prog W = .ok (.float .f64 (fl (x + y))) W
  c1 : Ov (fl x) (fl (x + y)) s
  c2 : Ov (fl y) (fl (x + y)) t
  c3 : Ov (fl x) (fl x) u
  o0 : (FloatKind.f64.format.order s 0 == some Ordering.gt || FloatKind.f64.format.order s 0 == some Ordering.eq) = true
  o1 : (FloatKind.f64.format.order s one == some Ordering.lt || FloatKind.f64.format.order s one == some Ordering.eq) = true
  p0 : (FloatKind.f64.format.order t 0 == some Ordering.gt || FloatKind.f64.format.order t 0 == some Ordering.eq) = true
  p1 : (FloatKind.f64.format.order t one == some Ordering.lt || FloatKind.f64.format.order t one == some Ordering.eq) = true
  whole : ((FloatKind.f64.format.order (fl (x + y)) 0 == some Ordering.eq) = true ∧ s = 0) ∨
    ((FloatKind.f64.format.order (fl (x + y)) 0 == some Ordering.eq) = false ∧ (∀ W, (binOp .quo 23 (.float .f64 (fl x)) (.float .f64 (fl (x + y)))).run Try.prog W = .ok (.float .f64 s) W) ∧ (FloatKind.f64.format.order s s == some Ordering.eq) = true)
  self : ((FloatKind.f64.format.order (fl x) 0 == some Ordering.eq) = true ∧ u = 0) ∨ ((FloatKind.f64.format.order (fl x) 0 == some Ordering.eq) = false ∧ u = one)

theorem pair_of (x y : Nat) (hx : x < 4503599627370496) (hy : y < 4503599627370496) : ∃ s t u, Pair x y s t u := by
  have hz : x + y < 2 ^ 53 := by omega
  have hx3 : x < 2 ^ 53 := by omega
  have hadd : ∀ W, (binOp .add 23 (.float .f64 (fl x)) (.float .f64 (fl y))).run Try.prog W = .ok (.float .f64 (fl (x + y))) W := fun W => run_float_arith W .add 23 .f64 _ _ _ (add_fl x y hz)
  obtain ⟨z1, z2, z3⟩ := order_small 0 (Nat.zero_le _)
  by_cases h0 : x + y = 0
  · have hx0 : x = 0 := by omega
    exact ⟨0, 0, 0, hadd, ov_zero _ _ hz h0, ov_zero _ _ hz h0, ov_zero _ _ hx3 hx0, z2, z3, z2, z3, .inl ⟨by have := order_zero (x + y) hz; rw [decide_eq_true h0] at this; exact this, rfl⟩,
      .inl ⟨by have := order_zero x hx3; rw [decide_eq_true hx0] at this; exact this, rfl⟩⟩
  · obtain ⟨s, hs, hs1, _⟩ := div_fl x (x + y) h0 (by omega) hz
    obtain ⟨t, ht, ht1, _⟩ := div_fl y (x + y) h0 (by omega) hz
    obtain ⟨a1, a2, a3⟩ := order_small s hs1
    obtain ⟨b1, b2, b3⟩ := order_small t ht1
    have hw : ((FloatKind.f64.format.order (fl (x + y)) 0 == some Ordering.eq) = true ∧ s = 0) ∨
        ((FloatKind.f64.format.order (fl (x + y)) 0 == some Ordering.eq) = false ∧ (∀ W, (binOp .quo 23 (.float .f64 (fl x)) (.float .f64 (fl (x + y)))).run Try.prog W = .ok (.float .f64 s) W) ∧ (FloatKind.f64.format.order s s == some Ordering.eq) = true) :=
      .inr ⟨by have := order_zero (x + y) hz; rw [decide_eq_false h0] at this; exact this, fun W => run_float_arith W .quo 23 .f64 _ _ _ hs, a1⟩
    by_cases hx0 : x = 0
    · exact ⟨s, t, 0, hadd, ov_quo _ _ _ hz h0 hs, ov_quo _ _ _ hz h0 ht, ov_zero _ _ hx3 hx0, a2, a3, b2, b3, hw, .inl ⟨by have := order_zero x hx3; rw [decide_eq_true hx0] at this; exact this, rfl⟩⟩
    · obtain ⟨u, hu, _, hu1⟩ := div_fl x x hx0 (Nat.le_refl _) hx3
      rw [hu1 rfl] at hu
      exact ⟨s, t, one, hadd, ov_quo _ _ _ hz h0 hs, ov_quo _ _ _ hz h0 ht, ov_quo _ _ _ hx3 hx0 hu, a2, a3, b2, b3, hw, .inr ⟨by have := order_zero x hx3; rw [decide_eq_false hx0] at this; exact this, rfl⟩⟩

theorem bne_of {α : Type} [BEq α] {x y : α} {b : Bool} (h : (x == y) = b) : (x != y) = !b := by rw [bne, h]

set_option maxRecDepth 100000 in
set_option maxHeartbeats 25600000 in
theorem shares_any (w : World) (a : Int) (a1 : -9223372036854775808 ≤ a) (a2 : a ≤ 9223372036854775807) (b : Int) (b1 : -9223372036854775808 ≤ b) (b2 : b ≤ 9223372036854775807)
    (c : Int) (c1 : -9223372036854775808 ≤ c) (c2 : c ≤ 9223372036854775807) (d : Int) (d1 : -9223372036854775808 ≤ d) (d2 : d ≤ 9223372036854775807) :
    Calls Try.prog 3 #[.int .i64 a, .int .i64 b, .int .i64 c, .int .i64 d] w fun e w' => e = .returned (.bool true) ∧ Below w.heap.size w w' := by
  obtain ⟨s, t, u, hP⟩ := pair_of (few a) (few b) (few_lt a) (few_lt b)
  obtain ⟨s', t', u', hP'⟩ := pair_of (few c) (few d) (few_lt c) (few_lt d)
  have FA := Lib.hid (fun W => few_any a W a1 a2)
  have FB := Lib.hid (fun W => few_any b W b1 b2)
  have FC := Lib.hid (fun W => few_any c W c1 c2)
  have FD := Lib.hid (fun W => few_any d W d1 d2)
  obtain ⟨add, k1, k2, k3, o0, o1, p0, p1, wh, sf⟩ := hP
  obtain ⟨add', k1', k2', k3', o0', o1', p0', p1', wh', sf'⟩ := hP'
  have K1 := Lib.hid k1
  have K2 := Lib.hid k2
  have K3 := Lib.hid k3
  have K1' := Lib.hid k1'
  have K2' := Lib.hid k2'
  have K3' := Lib.hid k3'
  have z0 := ord_same
  have z1 : (FloatKind.f64.format.order one one == some Ordering.eq) = true := by decide
  clear k1 k2 k3 k1' k2' k3' a1 a2 b1 b2 c1 c2 d1 d2
  generalize few a = x at *
  generalize few b = y at *
  generalize few c = x' at *
  generalize few d = y' at *
  unfold one at *
  generalize fl (x + y) = Z at *
  generalize fl (x' + y') = Z' at *
  generalize fl x = X at *
  generalize fl y = Y at *
  generalize fl x' = X' at *
  generalize fl y' = Y' at *
  rcases wh with ⟨e1, rfl⟩ | ⟨e1, q1, q2⟩ <;> rcases wh' with ⟨e1', rfl⟩ | ⟨e1', q1', q2'⟩ <;> rcases sf with ⟨e2, rfl⟩ | ⟨e2, rfl⟩ <;> rcases sf' with ⟨e2', rfl⟩ | ⟨e2', rfl⟩
  all_goals
    have n1 := bne_of e1
    have n1' := bne_of e1'
    have n2 := bne_of e2
    have n2' := bne_of e2'
    go_enter Try.func3, Try.ntmps3
    go_wp2_with fail
    refine (awake_any _).mono ?_
    rintro e w1 ⟨rfl, hB1⟩
    have H1 := Lib.hid hB1
    clear hB1
    go_wp2_with fail
    refine (FA.out _).mono ?_
    rintro e w' ⟨rfl, rfl⟩
    go_wp2_with fail
    refine (FB.out _).mono ?_
    rintro e w' ⟨rfl, rfl⟩
    go_wp2_with fail
    refine (FC.out _).mono ?_
    rintro e w' ⟨rfl, rfl⟩
    go_wp2_with fail
    refine (FD.out _).mono ?_
    rintro e w' ⟨rfl, rfl⟩
    go_wp2_with fail
    refine (share_any _ _ _ _ _ _ _ K1.out K1'.out).mono ?_
    rintro e w' ⟨rfl, rfl⟩
    go_wp2_with fail
    refine (share_any _ _ _ _ _ _ _ K2.out K2'.out).mono ?_
    rintro e w' ⟨rfl, rfl⟩
    go_wp2_with fail
    refine (share_any _ _ _ _ _ _ _ K3.out K3'.out).mono ?_
    rintro e w' ⟨rfl, rfl⟩
    go_wp2_with fail
    go_ret
    exact ⟨rfl, H1.out⟩
end Go.Proofs.Ytpmhncblhdddhaa
