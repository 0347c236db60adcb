/- same. -/
import Derived.Test.YtncjhfofmeamdaaPk
namespace Go.Proofs.Ytncjhfofmeamdaa
open Go.RowKit

set_option maxHeartbeats 1600000 in
/-- Two rows of ints are alike. -/
theorem same_ints {w : World} {A B : Option Addr} {n n' c c' : Nat} {xs ys : List Nat} (hA : Row w A c xs) (hB : Row w B c' ys) (hn : xs.length = n) (hn' : ys.length = n') (hl : n < 1152921504606846976) (r : Bool) (hr : decide (xs = ys) = r) :
    Calls Try.prog 19 #[.slice A n c, .slice B n' c'] w fun e w' => e = .returned (.bool r) ∧ ∃ k, w' = w.drewN k := by
  have HA := Lib.hid hA
  have HB := Lib.hid hB
  have HN := Lib.hid hn
  have HN' := Lib.hid hn'
  have HR := Lib.hid hr
  clear hA hB hn hn' hr
  by_cases hne : n = n'
  · subst hne
    go_enter Try.func19, Try.ntmps19
    go_wp2_with fail
    go_loopw [5] (fun i wr => ∃ j k : Nat, j ≤ n ∧ i = .int .i64 (j : Int) ∧ xs.take j = ys.take j ∧ wr = w.drewN k) (fun i _ => n - (intOf i).toNat)
    case atStart => exact ⟨0, 0, Nat.zero_le _, rfl, by simp, rfl⟩
    case round =>
      obtain ⟨j, k, hj, rfl, htk, rfl⟩ := hrel
      have HTK := Lib.hid htk
      clear htk
      by_cases hjn : j < n
      · obtain ⟨x, hx⟩ : ∃ x, xs[j]? = some x := ⟨_, List.getElem?_eq_getElem (by have := HN.out; omega)⟩
        obtain ⟨y, hy⟩ : ∃ y, ys[j]? = some y := ⟨_, List.getElem?_eq_getElem (by have := HN'.out; omega)⟩
        obtain ⟨g, off, rfl⟩ := HA.out.some_ (by have := HN.out; omega)
        obtain ⟨g', off', rfl⟩ := HB.out.some_ (by have := HN'.out; omega)
        have g0 := HA.out.cell hx
        have g1 := HB.out.cell hy
        have HX := Lib.hid hx
        have HY := Lib.hid hy
        clear hx hy
        by_cases hxy : x = y
        · have hb : ((x : Int) != (y : Int)) = false := by simp [hxy]
          have HT2 := Lib.hid (show xs.take (j + 1) = ys.take (j + 1) by
            obtain ⟨h1, e1⟩ := List.getElem?_eq_some_iff.1 HX.out
            obtain ⟨h2, e2⟩ := List.getElem?_eq_some_iff.1 HY.out
            rw [List.take_succ_eq_append_getElem h1, List.take_succ_eq_append_getElem h2, e1, e2, HTK.out, hxy])
          clear hxy
          go_wp2_with fail
          go_quiet (fail)
          go_wp2_with fail
          go_roundw
          case rel => exact ⟨j + 1, _, by omega, by go_num, HT2.out, rfl⟩
          case measure => simp [intOf]; omega
        · have hb : ((x : Int) != (y : Int)) = true := by rw [bne_iff_ne]; omega
          have HRR := Lib.hid (show r = false by
            rw [← HR.out, decide_eq_false_iff_not]
            intro e
            have h1 := HX.out
            rw [e, HY.out] at h1
            exact hxy (Option.some.inj h1).symm)
          clear hxy
          go_wp2_with fail
          go_quiet (fail)
          go_wp2_with fail
          go_ret
          exact ⟨by rw [HRR.out]; rfl, _, by rw [World.drewN_drewN]⟩
      · obtain rfl : j = n := by omega
        have HRR := Lib.hid (show r = true by
          rw [← HR.out, decide_eq_true_iff]
          have h1 := HTK.out
          rwa [List.take_of_length_le (by have := HN.out; omega), List.take_of_length_le (by have := HN'.out; omega)] at h1)
        go_wp2_with fail
        go_ret
        exact ⟨by rw [HRR.out]; rfl, _, rfl⟩
  · have hb : ((n : Int) != (n' : Int)) = true := by rw [bne_iff_ne]; omega
    have HRR := Lib.hid (show r = false by
      rw [← HR.out, decide_eq_false_iff_not]
      intro e
      have h1 := HN.out
      have h2 := HN'.out
      rw [e] at h1
      omega)
    clear hne
    go_enter Try.func19, Try.ntmps19
    go_wp2_with fail
    go_ret
    exact ⟨by rw [HRR.out]; rfl, 0, rfl⟩
end Go.Proofs.Ytncjhfofmeamdaa
