/- MeterTokens: whatever the rate and the burst. -/
import Derived.Test.YtpmhncblhdddhaaTokensWalk
namespace Go.Proofs.Ytpmhncblhdddhaa
open Go.RowKit

set_option maxRecDepth 100000 in
set_option maxHeartbeats 3200000 in
theorem tokens_no (w : World) (r u : Int) (h : r < 0 ∨ 1048576 < r ∨ u < 0 ∨ 1048576 < u) (A : Option Addr) (len cap : Nat) :
    Calls Try.prog 4 #[.int .i64 r, .int .i64 u, .slice A len cap] w fun e w' => e = .returned (.bool true) ∧ Below w.heap.size w w' := by
  have HH := Lib.hid h
  by_cases h0 : r < 0
  · have h0' : ¬ (0 ≤ r) := by omega
    clear h
    go_enter Try.func4, Try.ntmps4
    go_wp2_with fail
    refine (awake_any _).mono ?_
    rintro e w1 ⟨rfl, hB1⟩
    have H1 := Lib.hid hB1
    clear hB1
    go_wp2_with fail
    refine (bucket_no r u _ HH.out).mono ?_
    rintro e w2 ⟨rfl, rfl⟩
    go_wp2_with fail
    refine wp_loop_rounds 1 ?_
    rw [rounds_succ]
    go_wp2_with fail
    go_ret
    exact ⟨rfl, H1.out.alloc H1.out.size _⟩
  · by_cases h1 : 1048576 < r
    · have h0' : 0 ≤ r := by omega
      have h1' : ¬ (r ≤ 1048576) := by omega
      clear h
      go_enter Try.func4, Try.ntmps4
      go_wp2_with fail
      refine (awake_any _).mono ?_
      rintro e w1 ⟨rfl, hB1⟩
      have H1 := Lib.hid hB1
      clear hB1
      go_wp2_with fail
      refine (bucket_no r u _ HH.out).mono ?_
      rintro e w2 ⟨rfl, rfl⟩
      go_wp2_with fail
      refine wp_loop_rounds 1 ?_
      rw [rounds_succ]
      go_wp2_with fail
      go_ret
      exact ⟨rfl, H1.out.alloc H1.out.size _⟩
    · by_cases h2 : u < 0
      · have h0' : 0 ≤ r := by omega
        have h1' : r ≤ 1048576 := by omega
        have h2' : ¬ (0 ≤ u) := by omega
        clear h
        go_enter Try.func4, Try.ntmps4
        go_wp2_with fail
        refine (awake_any _).mono ?_
        rintro e w1 ⟨rfl, hB1⟩
        have H1 := Lib.hid hB1
        clear hB1
        go_wp2_with fail
        refine (bucket_no r u _ HH.out).mono ?_
        rintro e w2 ⟨rfl, rfl⟩
        go_wp2_with fail
        refine wp_loop_rounds 1 ?_
        rw [rounds_succ]
        go_wp2_with fail
        go_ret
        exact ⟨rfl, H1.out.alloc H1.out.size _⟩
      · have h0' : 0 ≤ r := by omega
        have h1' : r ≤ 1048576 := by omega
        have h2' : 0 ≤ u := by omega
        have h3' : ¬ (u ≤ 1048576) := by omega
        clear h
        go_enter Try.func4, Try.ntmps4
        go_wp2_with fail
        refine (awake_any _).mono ?_
        rintro e w1 ⟨rfl, hB1⟩
        have H1 := Lib.hid hB1
        clear hB1
        go_wp2_with fail
        refine (bucket_no r u _ HH.out).mono ?_
        rintro e w2 ⟨rfl, rfl⟩
        go_wp2_with fail
        refine wp_loop_rounds 1 ?_
        rw [rounds_succ]
        go_wp2_with fail
        go_ret
        exact ⟨rfl, H1.out.alloc H1.out.size _⟩

theorem tokens_any (w : World) (r : Int) (_ : -9223372036854775808 ≤ r) (_ : r ≤ 9223372036854775807) (u : Int) (_ : -9223372036854775808 ≤ u) (_ : u ≤ 9223372036854775807) (A : Option Addr) (len cap : Nat) (hrd : Rd Try.prog w 28 [.slice A len cap]) (_ : len * Try.prog.bytesOf 37 ≤ 140737488351232) :
    Calls Try.prog 4 #[.int .i64 r, .int .i64 u, .slice A len cap] w fun e w' => e = .returned (.bool true) ∧ Below w.heap.size w w' := by
  by_cases h : r < 0 ∨ 1048576 < r ∨ u < 0 ∨ 1048576 < u
  · exact tokens_no w r u h A len cap
  · obtain ⟨r, rfl⟩ : ∃ k : Nat, r = k := ⟨r.toNat, by omega⟩
    obtain ⟨u, rfl⟩ : ∃ k : Nat, u = k := ⟨u.toNat, by omega⟩
    obtain ⟨hst, hlen⟩ := draws_in hrd
    exact tokens_yes w r u (by omega) (by omega) A len cap hst hlen
end Go.Proofs.Ytpmhncblhdddhaa
