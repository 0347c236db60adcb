/- The rows of draws that the laws are given, as the walk reads them. -/
import Derived.Test.YtpmhncblhdddhaaTok
import Derived.Test.YtpmhncblhdddhaaOpen
namespace Go.Proofs.Ytpmhncblhdddhaa
open Go.RowKit

/-- The draws that came in: of each its two cells. -/
def DrawsIn (w : World) (A : Option Addr) (len : Nat) : Prop :=
  0 < len → ∃ b off, A = some ⟨b, off, none⟩ ∧ b < w.heap.size ∧ ∀ i, i < len → ∃ (x : Bool) (n : Int),
    (-9223372036854775808 ≤ n ∧ n ≤ 9223372036854775807) ∧ w.cell? ⟨b, off + i * 2, none⟩ = some (.bool x) ∧ w.cell? ⟨b, off + i * 2 + 1, none⟩ = some (.int .i64 n)

theorem cells37 : Try.prog.cellsOf 37 = 2 := by kernel_rfl
theorem cells3 : Try.prog.cellsOf 3 = 1 := by kernel_rfl
theorem cells4 : Try.prog.cellsOf 4 = 1 := by kernel_rfl

theorem draws_in {w : World} {A : Option Addr} {len cap : Nat} (h : Rd Try.prog w 28 [.slice A len cap]) : DrawsIn w A len ∧ len ≤ 9223372036854775807 := by
  obtain ⟨A', len', cap', hc, hlc, hcm, _, hr⟩ := h.slice_ Try.underlying28 (by rw [cells37]; omega)
  simp at hc
  obtain ⟨rfl, rfl, rfl⟩ := hc
  refine ⟨fun hl => ?_, by omega⟩
  obtain ⟨b, off, rfl, hb, hi⟩ := hr hl
  refine ⟨b, off, rfl, hb, fun i hil => ?_⟩
  obtain ⟨cs, hlen, hcell, hrd⟩ := hi i hil
  rw [cells37] at hlen hcell
  obtain ⟨_, hf⟩ := hrd.struct_ Try.underlying37
  have f0 := hf 0 _ rfl
  have f1 := hf 1 _ rfl
  match cs, hlen with
  | [v0, v1], _ =>
    simp only [List.getElem_toArray, List.getElem_cons_zero, List.getElem_cons_succ, cells3, cells4, List.drop_zero, List.take_succ_cons, List.take_zero, List.drop_succ_cons] at f0 f1
    obtain ⟨x, e0⟩ := f0.bool_ Try.underlying4
    obtain ⟨n, e1, hn1, hn2⟩ := f1.i64_ Try.underlying3
    simp at e0 e1
    subst e0 e1
    exact ⟨x, n, ⟨hn1, hn2⟩, hcell 0 _ rfl, hcell 1 _ rfl⟩

theorem DrawsIn.below {w w' : World} {A : Option Addr} {len : Nat} (h : DrawsIn w A len) (hb : Below w.heap.size w w') : DrawsIn w' A len := by
  intro hl
  obtain ⟨b, off, hA, hlt, hi⟩ := h hl
  refine ⟨b, off, hA, Nat.lt_of_lt_of_le hlt hb.size, fun i hil => ?_⟩
  obtain ⟨x, n, h0, c0, c1⟩ := hi i hil
  exact ⟨x, n, h0, (hb.cell hlt).trans c0, (hb.cell hlt).trans c1⟩
end Go.Proofs.Ytpmhncblhdddhaa
