/- What a ring is in memory, and the contracts of its two atomic numbers. -/
import Derived.Test.YteggdpkjbbjcdaaPure
import Derived.Test.YteggdpkjbbjcdaaRows
namespace Go.Proofs.Yteggdpkjbbjcdaa
open Go.RowKit

theorem load_any (a : Addr) (n : Int) (w : World) (hc : w.cell? a = some (.int .u64 n)) :
    Calls Try.prog 39 #[.pointer (some a)] w fun e w' => e = .returned (.int .u64 n) ∧ w = w' := by
  have hl := run_call_load (P := Try.prog) Try.func45 (by kernel_rfl) (by kernel_rfl) (by kernel_rfl) .u64 (by kernel_rfl) hc
  go_enter Try.func39, Try.ntmps39
  go_wp2
  go_ret
  exact ⟨rfl, rfl⟩

theorem store_any (a : Addr) (n : Int) (u : Value) (w : World) (hc : w.cell? a = some u) (hz : w.frozen? a = false) :
    Calls Try.prog 41 #[.pointer (some a), .int .u64 n] w fun e w' => e = .returned (.tuple #[]) ∧ w.setCell a (.int .u64 n) = w' := by
  have hl := run_call_store (P := Try.prog) Try.func46 (by kernel_rfl) (by kernel_rfl) (by kernel_rfl) (by kernel_rfl) (k := .u64) (y := n) hc hz
  go_enter Try.func41, Try.ntmps41
  go_wp2
  go_end0
  exact ⟨rfl, rfl⟩
/-- Block b is a ring of m places (cells of type E in block g), o were popped, xs are in. -/
def RingIs (w : World) (b g T E m o : Nat) (xs : List Value) : Prop :=
  (∃ k, k ≤ 16 ∧ m = 2 ^ k) ∧ g ≠ b ∧ xs.length ≤ m ∧ ∃ cs : Array Value, Blk w b T #[.slice (some ⟨g, 0, none⟩) m m, .int .u64 ((o + xs.length : Nat) : Int), .int .u64 (o : Int)] ∧ Blk w g E cs ∧ cs.size = m ∧
    ∀ j, j < xs.length → cs[(o + j) % m]? = xs[j]?

theorem u64_mask (n k : Nat) (hn : n < 4294967296) (hk : k ≤ 16) : bits .and .u64 (n : Int) (((2 ^ k : Nat) : Int) - 1) = ((n % 2 ^ k : Nat) : Int) := by
  have h1 : 1 ≤ 2 ^ k := Nat.one_le_two_pow
  have h2 : 2 ^ k ≤ 2 ^ 16 := Nat.pow_le_pow_right (by omega) hk
  have : (((2 ^ k : Nat) : Int) - 1) = ((2 ^ k - 1 : Nat) : Int) := by omega
  rw [this, u64_and_nat _ _ (by omega) (by omega), Nat.and_two_pow_sub_one_eq_mod]

theorem RingIs.open_ {w : World} {b g T E m o : Nat} {xs : List Value} (h : RingIs w b g T E m o xs) : 0 < m ∧ m ≤ 65536 ∧ g ≠ b ∧ xs.length ≤ m ∧ ∀ n : Nat, n < 4294967296 → bits .and .u64 (n : Int) ((m : Int) - 1) = ((n % m : Nat) : Int) := by
  obtain ⟨⟨k, hk, rfl⟩, hne, hle, _⟩ := h
  exact ⟨Nat.two_pow_pos k, Nat.pow_le_pow_right (n := 2) (j := 16) (by omega) hk, hne, hle, fun n hn => u64_mask n k hn hk⟩

theorem load_q (a : Addr) (n : Int) (w : World) (hc : w.cell? a = some (.int .u64 n)) :
    Calls Try.prog 39 #[.pointer (some a)] w fun e w' => e = .returned (.int .u64 n) ∧ w' = w :=
  (load_any a n w hc).mono fun _ _ h => ⟨h.1, h.2.symm⟩


theorem wrap_pow {k : Nat} (hk : k ≤ 16) : wrap64 ((2 : Int) ^ k) = ((2 ^ k : Nat) : Int) := by
  have h2 : 2 ^ k ≤ 65536 := Nat.pow_le_pow_right (n := 2) (j := 16) (by omega) hk
  have e : ((2 ^ k : Nat) : Int) = (2 : Int) ^ k := by simp
  rw [← e]
  clear e
  generalize 2 ^ k = m at *
  exact IntWalk.wrap64_in _ (by omega)
end Go.Proofs.Yteggdpkjbbjcdaa
