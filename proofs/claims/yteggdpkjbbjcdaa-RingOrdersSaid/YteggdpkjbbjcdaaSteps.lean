/- The rows of steps that the laws are given, as the walk reads them; a ring that stays as it is; which step it is. -/
import Derived.Test.YteggdpkjbbjcdaaRing
import Derived.Test.YteggdpkjbbjcdaaOpen
import Derived.Test.YteggdpkjbbjcdaaOwn
namespace Go.Proofs.Yteggdpkjbbjcdaa
open Go.RowKit

theorem RingIs.fr {w w' : World} {b g T E m o : Nat} {xs : List Value} {S : Nat → Prop} (h : RingIs w b g T E m o xs) (k : Fr S w w') (hb : ¬ S b) (hg : ¬ S g) : RingIs w' b g T E m o xs := by
  obtain ⟨h1, h2, h3, cs, hB, hG, h4⟩ := h
  exact ⟨h1, h2, h3, cs, hB.fr k hb, hG.fr k hg, h4⟩
theorem RingIs.lt {w : World} {b g T E m o : Nat} {xs : List Value} (h : RingIs w b g T E m o xs) : b < w.heap.size ∧ g < w.heap.size := by
  obtain ⟨h1, h2, h3, cs, hB, hG, h4⟩ := h
  exact ⟨hB.lt, hG.lt⟩

def strs (l : List ByteArray) : List Value := l.map Value.string
theorem strs_len (l : List ByteArray) : (strs l).length = l.length := by simp [strs]
theorem strs_add (l : List ByteArray) (s : ByteArray) : strs l ++ [.string s] = strs (l ++ [s]) := by simp [strs]

/-- The steps that came in: of each its three cells. -/
def StepsIn (w : World) (A : Option Addr) (len : Nat) : Prop :=
  0 < len → ∃ b off, A = some ⟨b, off, none⟩ ∧ b < w.heap.size ∧ ∀ i, i < len → ∃ (x n : Int) (s : ByteArray),
    (-9223372036854775808 ≤ x ∧ x ≤ 9223372036854775807 ∧ -9223372036854775808 ≤ n ∧ n ≤ 9223372036854775807 ∧ s.size ≤ 9223372036854775807) ∧
    w.cell? ⟨b, off + i * 3, none⟩ = some (.int .i64 x) ∧ w.cell? ⟨b, off + i * 3 + 1, none⟩ = some (.int .i64 n) ∧ w.cell? ⟨b, off + i * 3 + 2, none⟩ = some (.string s)

theorem cells29 : Try.prog.cellsOf 29 = 3 := by kernel_rfl
theorem cells3 : Try.prog.cellsOf 3 = 1 := by kernel_rfl
theorem cells9 : Try.prog.cellsOf 9 = 1 := by kernel_rfl

theorem steps_in {w : World} {A : Option Addr} {len cap : Nat} (h : Rd Try.prog w 22 [.slice A len cap]) : StepsIn w A len ∧ len ≤ 9223372036854775807 := by
  obtain ⟨A', len', cap', hc, hlc, hcm, _, hr⟩ := h.slice_ Try.underlying22 (by rw [cells29]; omega)
  simp at hc
  obtain ⟨rfl, rfl, rfl⟩ := hc
  refine ⟨fun hl => ?_, by omega⟩
  obtain ⟨b, off, rfl, hb, hi⟩ := hr hl
  refine ⟨b, off, rfl, hb, fun i hil => ?_⟩
  obtain ⟨cs, hlen, hcell, hrd⟩ := hi i hil
  rw [cells29] at hlen hcell
  obtain ⟨_, hf⟩ := hrd.struct_ Try.underlying29
  have f0 := hf 0 _ rfl
  have f1 := hf 1 _ rfl
  have f2 := hf 2 _ rfl
  match cs, hlen with
  | [v0, v1, v2], _ =>
    simp only [List.getElem_toArray, List.getElem_cons_zero, List.getElem_cons_succ, cells3, cells9, List.drop_zero, List.take_succ_cons, List.take_zero, List.drop_succ_cons] at f0 f1 f2
    obtain ⟨x, e0, hx1, hx2⟩ := f0.i64_ Try.underlying3
    obtain ⟨n, e1, hn1, hn2⟩ := f1.i64_ Try.underlying3
    obtain ⟨s, e2, hs⟩ := f2.string_ Try.underlying9
    simp at e0 e1 e2
    subst e0 e1 e2
    exact ⟨x, n, s, ⟨hx1, hx2, hn1, hn2, hs⟩, hcell 0 _ rfl, hcell 1 _ rfl, hcell 2 _ rfl⟩

theorem StepsIn.below {w w' : World} {A : Option Addr} {len : Nat} (h : StepsIn w A len) (hb : Below w.heap.size w w') : StepsIn w' A len := by
  intro hl
  obtain ⟨b, off, hA, hlt, hi⟩ := h hl
  refine ⟨b, off, hA, Nat.lt_of_lt_of_le hlt hb.size, fun i hil => ?_⟩
  obtain ⟨x, n, s, h0, c0, c1, c2⟩ := hi i hil
  exact ⟨x, n, s, h0, (hb.cell hlt).trans c0, (hb.cell hlt).trans c1, (hb.cell hlt).trans c2⟩

theorem kind_any (x n : Int) (s : ByteArray) (w : World) :
    Calls Try.prog 11 #[.agg #[.int .i64 x, .int .i64 n, .string s]] w fun e w' => e = .returned (.int .i64 (x % 4)) ∧ w.alloc (.cells #[.int .i64 x, .int .i64 n, .string s] 29) = w' := by
  have hb := i64_and3 x
  go_enter Try.func11, Try.ntmps11
  go_wp2
  go_ret
  exact ⟨rfl, rfl⟩

theorem kind_fr (x n : Int) (s : ByteArray) (w : World) :
    Calls Try.prog 11 #[.agg #[.int .i64 x, .int .i64 n, .string s]] w fun e w' => e = .returned (.int .i64 (x % 4)) ∧ Fr (fun _ => False) w w' :=
  (kind_any x n s w).mono fun _ _ h => ⟨h.1, h.2 ▸ (Fr.refl _ _).alloc _⟩
end Go.Proofs.Yteggdpkjbbjcdaa
