/- Prefixes as keys of a map. -/
import Derived.Test.YtnklbeigikcfkaaGreatDoorEq
import Derived.Test.YtnklbeigikcfkaaGreatDoorMp
import Derived.Maps.Keyed
import Derived.DeepKeys4
namespace Go.Proofs.YtnklbeigikcfkaaGreatDoor
open Go.Proofs Go.RowKit Go.ChangeShapes Go.WideShapes
open Go.Maps (Keyed)
theorem laidO : laidOutB Tryz.prog = true := by kernel_rfl
theorem keyedP : Keyed Tryz.prog 32 :=
  Keyed.of_law (deep_law_laid laidO (m := 3) (by omega) (of_decide_eq_true (by kernel_rfl)) (by kernel_rfl) (by kernel_rfl))
theorem key_px (p : Px) (ho : p.ok) : ∃ y, keyOf Tryz.prog 32 (pxV p) = some y := by
  obtain ⟨⟨s, h, l⟩, m⟩ := p
  obtain ⟨⟨h1, h2⟩, h3, h4⟩ := ho
  simp only at h1 h2 h3 h4
  have w1 : (Lit.int .u64 (h : Int)).wf = true := by
    simp only [Lit.wf, Bool.and_eq_true, decide_eq_true_eq]
    have e1 : IntKind.u64.min = 0 := rfl
    have e2 : IntKind.u64.max = 18446744073709551615 := rfl
    omega
  have w2 : (Lit.int .u64 (l : Int)).wf = true := by
    simp only [Lit.wf, Bool.and_eq_true, decide_eq_true_eq]
    have e1 : IntKind.u64.min = 0 := rfl
    have e2 : IntKind.u64.max = 18446744073709551615 := rfl
    omega
  have w3 : (Lit.int .i64 m).wf = true := by
    simp only [Lit.wf, Bool.and_eq_true, decide_eq_true_eq]
    have e1 : IntKind.i64.min = -9223372036854775808 := rfl
    have e2 : IntKind.i64.max = 9223372036854775807 := rfl
    omega
  have hk : Tryz.prog.keyType 32 = true := by kernel_rfl
  have c0 : Tryz.prog.cellsOf 32 = 4 := by kernel_rfl
  have c1 : Tryz.prog.cellsOf 30 = 3 := by kernel_rfl
  have c2 : Tryz.prog.cellsOf 3 = 1 := by kernel_rfl
  have c3 : Tryz.prog.cellsOf 4 = 1 := by kernel_rfl
  have c4 : Tryz.prog.cellsOf 28 = 1 := by kernel_rfl
  have hf : (pxV ⟨⟨s, h, l⟩, m⟩).formed Tryz.prog 32 = true := by
    unfold pxV Value.formed
    simp [Tryz.underlying32, c0]
  obtain ⟨n, hn⟩ : ∃ n, Tryz.prog.types.size + 1 = n + 3 := ⟨Tryz.prog.types.size - 2, by
    have : 2 ≤ Tryz.prog.types.size := of_decide_eq_true (by kernel_rfl)
    omega⟩
  unfold keyOf
  simp only [Tryz.underlying32, hk, hf, hn]
  unfold pxV
  simp [Program.keyLits, Tryz.underlying32, Tryz.underlying30, Tryz.underlying3, Tryz.underlying4, Tryz.underlying28, c0, c1, c2, c3, c4, w1, w2, w3, Value.cells]
  rw [if_pos (by intro i hi; have : i = 0 ∨ i = 1 ∨ i = 2 := by omega
                 rcases this with rfl | rfl | rfl <;> simp)]
  exact ⟨_, rfl⟩
end Go.Proofs.YtnklbeigikcfkaaGreatDoor
