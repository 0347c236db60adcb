/- The rows of steps that the laws are given. -/
import Derived.Test.YtncjhfofmeamdaaLv5
import Derived.Test.YtncjhfofmeamdaaOpen
namespace Go.Proofs.Ytncjhfofmeamdaa
open Go.RowKit

/-- The steps that came in: of each its three cells. -/
def StepsIn (w : World) (A : Option Addr) (len : Nat) : Prop :=
  0 < len → ∃ b off, A = some ⟨b, off, none⟩ ∧ b < w.heap.size ∧ ∀ i, i < len → ∃ (g r : Bool) (n : Int),
    (-9223372036854775808 ≤ n ∧ n ≤ 9223372036854775807) ∧
    w.cell? ⟨b, off + i * 3, none⟩ = some (.bool g) ∧ w.cell? ⟨b, off + i * 3 + 1, none⟩ = some (.bool r) ∧ w.cell? ⟨b, off + i * 3 + 2, none⟩ = some (.int .i64 n)
theorem cells32 : Try.prog.cellsOf 32 = 3 := by kernel_rfl
theorem cells3 : Try.prog.cellsOf 3 = 1 := by kernel_rfl
theorem cells4 : Try.prog.cellsOf 4 = 1 := by kernel_rfl
theorem steps_in {w : World} {A : Option Addr} {len cap : Nat} (h : Rd Try.prog w 22 [.slice A len cap]) : StepsIn w A len ∧ len ≤ 9223372036854775807 := by
  obtain ⟨A', len', cap', hc, hlc, hcm, _, hr⟩ := h.slice_ Try.underlying22 (by rw [cells32]; omega)
  simp at hc
  obtain ⟨rfl, rfl, rfl⟩ := hc
  refine ⟨fun hl => ?_, by omega⟩
  obtain ⟨b, off, rfl, hb, hi⟩ := hr hl
  refine ⟨b, off, rfl, hb, fun i hil => ?_⟩
  obtain ⟨cs, hlen, hcell, hrd⟩ := hi i hil
  rw [cells32] at hlen hcell
  obtain ⟨_, hf⟩ := hrd.struct_ Try.underlying32
  have f0 := hf 0 _ rfl
  have f1 := hf 1 _ rfl
  have f2 := hf 2 _ rfl
  match cs, hlen with
  | [v0, v1, v2], _ =>
    simp only [List.getElem_toArray, List.getElem_cons_zero, List.getElem_cons_succ, cells3, cells4, List.drop_zero, List.take_succ_cons, List.take_zero, List.drop_succ_cons] at f0 f1 f2
    obtain ⟨g, e0⟩ := f0.bool_ Try.underlying4
    obtain ⟨r, e1⟩ := f1.bool_ Try.underlying4
    obtain ⟨n, e2, hn1, hn2⟩ := f2.i64_ Try.underlying3
    simp at e0 e1 e2
    subst e0 e1 e2
    exact ⟨g, r, n, ⟨hn1, hn2⟩, hcell 0 _ rfl, hcell 1 _ rfl, hcell 2 _ rfl⟩
theorem StepsIn.below {w w' : World} {A : Option Addr} {len : Nat} (h : StepsIn w A len) (hb : Below w.heap.size w w') : StepsIn w' A len := by
  intro hl
  obtain ⟨b, off, hA, hlt, hi⟩ := h hl
  refine ⟨b, off, hA, Nat.lt_of_lt_of_le hlt hb.size, fun i hil => ?_⟩
  obtain ⟨g, r, n, h0, c0, c1, c2⟩ := hi i hil
  exact ⟨g, r, n, h0, (hb.cell hlt).trans c0, (hb.cell hlt).trans c1, (hb.cell hlt).trans c2⟩
end Go.Proofs.Ytncjhfofmeamdaa
