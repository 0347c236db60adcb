/- pick, place, power. -/
import Derived.Test.YtncjhfofmeamdaaTkn
namespace Go.Proofs.Ytncjhfofmeamdaa
open Go.RowKit

def pk (x n : Int) : Int := if n < 1 then 0 else (if x < 0 then -(x + 1) else x) % n
theorem pick_any (w : World) (x n : Int) (hx1 : -9223372036854775808 ≤ x) (hx2 : x ≤ 9223372036854775807) (hn1 : -9223372036854775808 ≤ n) (hn2 : n ≤ 9223372036854775807) :
    Calls Try.prog 25 #[.int .i64 x, .int .i64 n] w fun e w' => e = .returned (.int .i64 (pk x n)) ∧ w = w' := by
  by_cases h1 : n < 1
  · have HP := Lib.hid (show (0 : Int) = pk x n by unfold pk; rw [if_pos h1])
    go_enter Try.func25, Try.ntmps25
    go_wp2_with fail
    go_ret
    exact ⟨ret_eq HP.out, rfl⟩
  · by_cases h2 : x < 0
    · have HP := Lib.hid (show -((x + 1).tmod n) = pk x n by unfold pk; rw [if_neg h1, if_pos h2, ← Int.neg_tmod, Int.tmod_eq_emod_of_nonneg (by omega)])
      have h3 : 1 ≤ n := by omega
      have h4 : n ≠ 0 := by omega
      clear h1
      go_enter Try.func25, Try.ntmps25
      go_wp2_with fail
      go_ret
      exact ⟨ret_eq HP.out, rfl⟩
    · have HP := Lib.hid (show x % n = pk x n by unfold pk; rw [if_neg h1, if_neg h2])
      have h3 : 1 ≤ n := by omega
      have h4 : n ≠ 0 := by omega
      clear h1
      go_enter Try.func25, Try.ntmps25
      go_wp2_with fail
      go_ret
      exact ⟨ret_eq HP.out, rfl⟩
set_option maxHeartbeats 800000 in
theorem power_any (w : World) (n : Nat) (hn : n ≤ 16) : Calls Try.prog 27 #[.int .i64 (n : Int)] w fun e w' => e = .returned (.int .i64 ((2 ^ n : Nat) : Int)) ∧ w = w' := by
  go_enter Try.func27, Try.ntmps27
  go_wp2_with fail
  go_loop [3, 4] (fun v i => ∃ j : Nat, j ≤ n ∧ v = .int .i64 ((2 ^ j : Nat) : Int) ∧ i = .int .i64 (j : Int)) (fun _ i => 20 - (intOf i).toNat)
  case atStart => exact ⟨0, Nat.zero_le _, rfl, rfl⟩
  case round =>
    obtain ⟨j, hj, rfl, rfl⟩ := hrel
    by_cases hjn : j < n
    · have hp : 2 ^ j ≤ 65536 := Nat.le_trans (Nat.pow_le_pow_right (by omega) (show j ≤ 16 by omega)) (Nat.le_refl (2 ^ 16))
      have HP := Lib.hid (p2s j)
      generalize 2 ^ j = p at *
      have hjI : (j : Int) < (n : Int) := by omega
      go_wp2_with fail
      go_round
      case rel => exact ⟨j + 1, by omega, by rw [HP.out]; go_num, by go_num⟩
      case measure => simp [intOf]; omega
    · obtain rfl : j = n := by omega
      go_wp2_with fail
      go_ret
      exact ⟨rfl, rfl⟩
/-- The place of a step of the kind. -/
def plc (g : Bool) (x : Int) (l : List Nat) : Int := if g then x else (if pk x (l.length + 1) = l.length then -1 else ((l.getD (pk x (l.length + 1)).toNat 0 : Nat) : Int))
theorem place_any {w : World} {A : Option Addr} {c : Nat} {l : List Nat} (h : Row w A c l) (hl : l.length ≤ 65536) (t g : Bool) (x : Int) (hx1 : -9223372036854775808 ≤ x) (hx2 : x ≤ 9223372036854775807) :
    Calls Try.prog 11 #[.agg #[.bool t, .bool g, .int .i64 x], .slice A l.length c] w fun e w' => e = .returned (.int .i64 (plc g x l)) ∧ Fr (fun _ => False) w w' := by
  cases g
  · have HK := Lib.hid (fun (W : World) => pick_any W x ((l.length : Int) + 1) hx1 hx2 (by omega) (by omega))
    have hb : 0 ≤ pk x ((l.length : Int) + 1) ∧ pk x ((l.length : Int) + 1) ≤ l.length := by
      unfold pk
      rw [if_neg (by omega)]
      have h1 := Int.emod_nonneg (if x < 0 then -(x + 1) else x) (show ((l.length : Int) + 1) ≠ 0 by omega)
      have h2 := Int.emod_lt_of_pos (if x < 0 then -(x + 1) else x) (show 0 < ((l.length : Int) + 1) by omega)
      omega
    obtain ⟨v, hv⟩ : ∃ v : Nat, pk x ((l.length : Int) + 1) = v := ⟨(pk x ((l.length : Int) + 1)).toNat, by omega⟩
    rw [hv] at HK hb
    have hvl : v ≤ l.length := by omega
    have HB := Lib.hid (Blk.new w 32 #[.bool t, .bool false, .int .i64 x])
    by_cases he : v = l.length
    · have HP := Lib.hid (show (-1 : Int) = plc false x l by unfold plc; rw [if_neg (by decide), hv, if_pos (by omega)])
      go_enter Try.func11, Try.ntmps11
      go_wp2_with fail
      refine (HK.out _).mono ?_
      rintro e w3 ⟨rfl, rfl⟩
      go_wp2_with fail
      go_ret
      exact ⟨ret_eq HP.out, (Fr.refl _ w).alloc _⟩
    · have hvI : (v : Int) < (l.length : Int) := by omega
      have hvI2 : ((v : Int) == (l.length : Int)) = false := by simp; omega
      have HP := Lib.hid (show ((l[v]'(by omega) : Nat) : Int) = plc false x l by
        unfold plc
        rw [if_neg (by decide), hv, if_neg (by omega), Int.toNat_natCast, List.getD_eq_getElem?_getD, List.getElem?_eq_getElem (by omega)]; rfl)
      obtain ⟨gg, off, rfl⟩ := h.some_ (by omega)
      have hcl := h.cell (j := v) (List.getElem?_eq_getElem (by omega))
      have hlt := h.lt
      have hne : gg ≠ w.heap.size := by omega
      generalize l[v]'(by omega) = y at *
      clear he hv
      go_enter Try.func11, Try.ntmps11
      go_wp2_with fail
      refine (HK.out _).mono ?_
      rintro e w3 ⟨rfl, rfl⟩
      go_wp2_with fail
      go_ret
      exact ⟨ret_eq HP.out, (Fr.refl _ w).alloc _⟩
  · go_enter Try.func11, Try.ntmps11
    go_wp2_with fail
    go_ret
    exact ⟨rfl, (Fr.refl _ w).alloc _⟩
end Go.Proofs.Ytncjhfofmeamdaa
