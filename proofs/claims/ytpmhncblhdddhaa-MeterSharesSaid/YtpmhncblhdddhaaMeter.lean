/- The contracts of package meter: the meter (as the chapter's example wants it), the tokens. -/
import Derived.Test.YtpmhncblhdddhaaBase
import Derived.Test.YtpmhncblhdddhaaRows
import Derived.Deep.RegionWith
namespace Go.Proofs.Ytpmhncblhdddhaa
open Go.RowKit

theorem run_store_complex (P : Program) (w : World) (a : Addr) (m : Mode) (k : FloatKind) (x y : Nat) : (store a (.complex k x y) m).run P w = stored P w a (.complex k x y) m := run_store P w a _ m rfl
attribute [local go_sem] run_store_complex

/-- Sixteen kinds, of which the first and the fourth have counted something. -/
def kinds (a d : Value) : Array Value := #[a, .complex .f64 0 0, .complex .f64 0 0, d, .complex .f64 0 0, .complex .f64 0 0, .complex .f64 0 0, .complex .f64 0 0, .complex .f64 0 0, .complex .f64 0 0, .complex .f64 0 0, .complex .f64 0 0, .complex .f64 0 0, .complex .f64 0 0, .complex .f64 0 0, .complex .f64 0 0]

theorem mnew_any (w : World) : Calls Try.prog 16 #[] w fun e w' => e = .returned (.pointer (some ⟨w.heap.size, 0, none⟩)) ∧ w.alloc (.cells (kinds (.complex .f64 0 0) (.complex .f64 0 0)) 52) = w' := by
  go_enter Try.func16, Try.ntmps16
  go_wp2
  go_ret
  exact ⟨rfl, rfl⟩

set_option maxHeartbeats 800000 in
theorem count_no (p : Value) (k n : Int) (w : World) (h : 16 ≤ k) : Calls Try.prog 17 #[p, .int .i64 k, .int .i64 n] w fun e w' => e = .returned (.int .i64 1) ∧ w = w' := by
  have h0 : ¬ k < 0 := by omega
  go_enter Try.func17, Try.ntmps17
  go_wp2
  go_ret
  exact ⟨rfl, rfl⟩

set_option maxHeartbeats 800000 in
theorem count_at (b k n : Nat) (x d x' d' : Nat) (cs : Array Value) (w : World) (hk : k < 16) (hn : n ≤ 65535) (hB : Blk w b 52 cs) (hc : cs[k]? = some (.complex .f64 x d))
    (hadd : ∀ W, (binOp .add 25 (.complex .f64 x d) (.complex .f64 4607182418800017408 (floatOfInt .f64 n))).run Try.prog W = .ok (.complex .f64 x' d') W) :
    Calls Try.prog 17 #[.pointer (some ⟨b, 0, none⟩), .int .i64 k, .int .i64 n] w fun e w' => e = .returned (.int .i64 0) ∧ Blk w' b 52 (cs.setIfInBounds k (.complex .f64 x' d')) ∧ Fr (fun i => i = b) w w' := by
  have c0 := (hB.cell k).trans hc
  have f0 := hB.frozen k
  have h0 : ¬ (k : Int) < 0 := by omega
  have h1 : (k : Int) < 16 := by omega
  have h2 : ¬ (n : Int) < 0 := by omega
  have h3 : (n : Int) ≤ 65535 := by omega
  go_enter Try.func17, Try.ntmps17
  go_wp2
  go_region
  all_goals
    go_wp2
    go_ret
    exact ⟨rfl, hB.drew.set_ k _, ((Fr.refl (fun i => i = b) w).drew).setCell (p := ⟨b, k, none⟩) (.inl rfl) _⟩

set_option maxHeartbeats 800000 in
theorem told_at (b k : Nat) (v : Value) (cs : Array Value) (w : World) (hk : k < 16) (hB : Blk w b 52 cs) (hc : cs[k]? = some v) :
    Calls Try.prog 18 #[.pointer (some ⟨b, 0, none⟩), .int .i64 k] w fun e w' => e = .returned v ∧ w = w' := by
  have c0 := (hB.cell k).trans hc
  have h0 : ¬ (k : Int) < 0 := by omega
  have h1 : (k : Int) < 16 := by omega
  clear hB hc
  go_enter Try.func18, Try.ntmps18
  go_wp2
  go_ret
  exact ⟨rfl, rfl⟩

set_option maxRecDepth 100000 in
set_option maxHeartbeats 1600000 in
theorem all_at (b : Nat) (w : World) (hB : Blk w b 52 (kinds (.complex .f64 4607182418800017408 4619567317775286272) (.complex .f64 4611686018427387904 4638144666238189568))) :
    Calls Try.prog 19 #[.pointer (some ⟨b, 0, none⟩)] w fun e w' => e = .returned (.complex .f64 4613937818241073152 4638637247447433216) ∧ w = w' := by
  have c0 : w.cell? ⟨b, 0, none⟩ = some (.complex .f64 4607182418800017408 4619567317775286272) := hB.cell 0
  have c1 : w.cell? ⟨b, 1, none⟩ = some (.complex .f64 0 0) := hB.cell 1
  have c2 : w.cell? ⟨b, 2, none⟩ = some (.complex .f64 0 0) := hB.cell 2
  have c3 : w.cell? ⟨b, 3, none⟩ = some (.complex .f64 4611686018427387904 4638144666238189568) := hB.cell 3
  have c4 : w.cell? ⟨b, 4, none⟩ = some (.complex .f64 0 0) := hB.cell 4
  have c5 : w.cell? ⟨b, 5, none⟩ = some (.complex .f64 0 0) := hB.cell 5
  have c6 : w.cell? ⟨b, 6, none⟩ = some (.complex .f64 0 0) := hB.cell 6
  have c7 : w.cell? ⟨b, 7, none⟩ = some (.complex .f64 0 0) := hB.cell 7
  have c8 : w.cell? ⟨b, 8, none⟩ = some (.complex .f64 0 0) := hB.cell 8
  have c9 : w.cell? ⟨b, 9, none⟩ = some (.complex .f64 0 0) := hB.cell 9
  have c10 : w.cell? ⟨b, 10, none⟩ = some (.complex .f64 0 0) := hB.cell 10
  have c11 : w.cell? ⟨b, 11, none⟩ = some (.complex .f64 0 0) := hB.cell 11
  have c12 : w.cell? ⟨b, 12, none⟩ = some (.complex .f64 0 0) := hB.cell 12
  have c13 : w.cell? ⟨b, 13, none⟩ = some (.complex .f64 0 0) := hB.cell 13
  have c14 : w.cell? ⟨b, 14, none⟩ = some (.complex .f64 0 0) := hB.cell 14
  have c15 : w.cell? ⟨b, 15, none⟩ = some (.complex .f64 0 0) := hB.cell 15
  have i0 : ∀ W, (Instr.index 50 (.agg #[(.complex .f64 4607182418800017408 4619567317775286272), (.complex .f64 0 0), (.complex .f64 0 0), (.complex .f64 4611686018427387904 4638144666238189568), (.complex .f64 0 0), (.complex .f64 0 0), (.complex .f64 0 0), (.complex .f64 0 0), (.complex .f64 0 0), (.complex .f64 0 0), (.complex .f64 0 0), (.complex .f64 0 0), (.complex .f64 0 0), (.complex .f64 0 0), (.complex .f64 0 0), (.complex .f64 0 0)]) (.int .i64 0)).run Try.prog W = .ok (.complex .f64 4607182418800017408 4619567317775286272) W := fun _ => by kernel_rfl
  have i1 : ∀ W, (Instr.index 50 (.agg #[(.complex .f64 4607182418800017408 4619567317775286272), (.complex .f64 0 0), (.complex .f64 0 0), (.complex .f64 4611686018427387904 4638144666238189568), (.complex .f64 0 0), (.complex .f64 0 0), (.complex .f64 0 0), (.complex .f64 0 0), (.complex .f64 0 0), (.complex .f64 0 0), (.complex .f64 0 0), (.complex .f64 0 0), (.complex .f64 0 0), (.complex .f64 0 0), (.complex .f64 0 0), (.complex .f64 0 0)]) (.int .i64 1)).run Try.prog W = .ok (.complex .f64 0 0) W := fun _ => by kernel_rfl
  have i2 : ∀ W, (Instr.index 50 (.agg #[(.complex .f64 4607182418800017408 4619567317775286272), (.complex .f64 0 0), (.complex .f64 0 0), (.complex .f64 4611686018427387904 4638144666238189568), (.complex .f64 0 0), (.complex .f64 0 0), (.complex .f64 0 0), (.complex .f64 0 0), (.complex .f64 0 0), (.complex .f64 0 0), (.complex .f64 0 0), (.complex .f64 0 0), (.complex .f64 0 0), (.complex .f64 0 0), (.complex .f64 0 0), (.complex .f64 0 0)]) (.int .i64 2)).run Try.prog W = .ok (.complex .f64 0 0) W := fun _ => by kernel_rfl
  have i3 : ∀ W, (Instr.index 50 (.agg #[(.complex .f64 4607182418800017408 4619567317775286272), (.complex .f64 0 0), (.complex .f64 0 0), (.complex .f64 4611686018427387904 4638144666238189568), (.complex .f64 0 0), (.complex .f64 0 0), (.complex .f64 0 0), (.complex .f64 0 0), (.complex .f64 0 0), (.complex .f64 0 0), (.complex .f64 0 0), (.complex .f64 0 0), (.complex .f64 0 0), (.complex .f64 0 0), (.complex .f64 0 0), (.complex .f64 0 0)]) (.int .i64 3)).run Try.prog W = .ok (.complex .f64 4611686018427387904 4638144666238189568) W := fun _ => by kernel_rfl
  have i4 : ∀ W, (Instr.index 50 (.agg #[(.complex .f64 4607182418800017408 4619567317775286272), (.complex .f64 0 0), (.complex .f64 0 0), (.complex .f64 4611686018427387904 4638144666238189568), (.complex .f64 0 0), (.complex .f64 0 0), (.complex .f64 0 0), (.complex .f64 0 0), (.complex .f64 0 0), (.complex .f64 0 0), (.complex .f64 0 0), (.complex .f64 0 0), (.complex .f64 0 0), (.complex .f64 0 0), (.complex .f64 0 0), (.complex .f64 0 0)]) (.int .i64 4)).run Try.prog W = .ok (.complex .f64 0 0) W := fun _ => by kernel_rfl
  have i5 : ∀ W, (Instr.index 50 (.agg #[(.complex .f64 4607182418800017408 4619567317775286272), (.complex .f64 0 0), (.complex .f64 0 0), (.complex .f64 4611686018427387904 4638144666238189568), (.complex .f64 0 0), (.complex .f64 0 0), (.complex .f64 0 0), (.complex .f64 0 0), (.complex .f64 0 0), (.complex .f64 0 0), (.complex .f64 0 0), (.complex .f64 0 0), (.complex .f64 0 0), (.complex .f64 0 0), (.complex .f64 0 0), (.complex .f64 0 0)]) (.int .i64 5)).run Try.prog W = .ok (.complex .f64 0 0) W := fun _ => by kernel_rfl
  have i6 : ∀ W, (Instr.index 50 (.agg #[(.complex .f64 4607182418800017408 4619567317775286272), (.complex .f64 0 0), (.complex .f64 0 0), (.complex .f64 4611686018427387904 4638144666238189568), (.complex .f64 0 0), (.complex .f64 0 0), (.complex .f64 0 0), (.complex .f64 0 0), (.complex .f64 0 0), (.complex .f64 0 0), (.complex .f64 0 0), (.complex .f64 0 0), (.complex .f64 0 0), (.complex .f64 0 0), (.complex .f64 0 0), (.complex .f64 0 0)]) (.int .i64 6)).run Try.prog W = .ok (.complex .f64 0 0) W := fun _ => by kernel_rfl
  have i7 : ∀ W, (Instr.index 50 (.agg #[(.complex .f64 4607182418800017408 4619567317775286272), (.complex .f64 0 0), (.complex .f64 0 0), (.complex .f64 4611686018427387904 4638144666238189568), (.complex .f64 0 0), (.complex .f64 0 0), (.complex .f64 0 0), (.complex .f64 0 0), (.complex .f64 0 0), (.complex .f64 0 0), (.complex .f64 0 0), (.complex .f64 0 0), (.complex .f64 0 0), (.complex .f64 0 0), (.complex .f64 0 0), (.complex .f64 0 0)]) (.int .i64 7)).run Try.prog W = .ok (.complex .f64 0 0) W := fun _ => by kernel_rfl
  have i8 : ∀ W, (Instr.index 50 (.agg #[(.complex .f64 4607182418800017408 4619567317775286272), (.complex .f64 0 0), (.complex .f64 0 0), (.complex .f64 4611686018427387904 4638144666238189568), (.complex .f64 0 0), (.complex .f64 0 0), (.complex .f64 0 0), (.complex .f64 0 0), (.complex .f64 0 0), (.complex .f64 0 0), (.complex .f64 0 0), (.complex .f64 0 0), (.complex .f64 0 0), (.complex .f64 0 0), (.complex .f64 0 0), (.complex .f64 0 0)]) (.int .i64 8)).run Try.prog W = .ok (.complex .f64 0 0) W := fun _ => by kernel_rfl
  have i9 : ∀ W, (Instr.index 50 (.agg #[(.complex .f64 4607182418800017408 4619567317775286272), (.complex .f64 0 0), (.complex .f64 0 0), (.complex .f64 4611686018427387904 4638144666238189568), (.complex .f64 0 0), (.complex .f64 0 0), (.complex .f64 0 0), (.complex .f64 0 0), (.complex .f64 0 0), (.complex .f64 0 0), (.complex .f64 0 0), (.complex .f64 0 0), (.complex .f64 0 0), (.complex .f64 0 0), (.complex .f64 0 0), (.complex .f64 0 0)]) (.int .i64 9)).run Try.prog W = .ok (.complex .f64 0 0) W := fun _ => by kernel_rfl
  have i10 : ∀ W, (Instr.index 50 (.agg #[(.complex .f64 4607182418800017408 4619567317775286272), (.complex .f64 0 0), (.complex .f64 0 0), (.complex .f64 4611686018427387904 4638144666238189568), (.complex .f64 0 0), (.complex .f64 0 0), (.complex .f64 0 0), (.complex .f64 0 0), (.complex .f64 0 0), (.complex .f64 0 0), (.complex .f64 0 0), (.complex .f64 0 0), (.complex .f64 0 0), (.complex .f64 0 0), (.complex .f64 0 0), (.complex .f64 0 0)]) (.int .i64 10)).run Try.prog W = .ok (.complex .f64 0 0) W := fun _ => by kernel_rfl
  have i11 : ∀ W, (Instr.index 50 (.agg #[(.complex .f64 4607182418800017408 4619567317775286272), (.complex .f64 0 0), (.complex .f64 0 0), (.complex .f64 4611686018427387904 4638144666238189568), (.complex .f64 0 0), (.complex .f64 0 0), (.complex .f64 0 0), (.complex .f64 0 0), (.complex .f64 0 0), (.complex .f64 0 0), (.complex .f64 0 0), (.complex .f64 0 0), (.complex .f64 0 0), (.complex .f64 0 0), (.complex .f64 0 0), (.complex .f64 0 0)]) (.int .i64 11)).run Try.prog W = .ok (.complex .f64 0 0) W := fun _ => by kernel_rfl
  have i12 : ∀ W, (Instr.index 50 (.agg #[(.complex .f64 4607182418800017408 4619567317775286272), (.complex .f64 0 0), (.complex .f64 0 0), (.complex .f64 4611686018427387904 4638144666238189568), (.complex .f64 0 0), (.complex .f64 0 0), (.complex .f64 0 0), (.complex .f64 0 0), (.complex .f64 0 0), (.complex .f64 0 0), (.complex .f64 0 0), (.complex .f64 0 0), (.complex .f64 0 0), (.complex .f64 0 0), (.complex .f64 0 0), (.complex .f64 0 0)]) (.int .i64 12)).run Try.prog W = .ok (.complex .f64 0 0) W := fun _ => by kernel_rfl
  have i13 : ∀ W, (Instr.index 50 (.agg #[(.complex .f64 4607182418800017408 4619567317775286272), (.complex .f64 0 0), (.complex .f64 0 0), (.complex .f64 4611686018427387904 4638144666238189568), (.complex .f64 0 0), (.complex .f64 0 0), (.complex .f64 0 0), (.complex .f64 0 0), (.complex .f64 0 0), (.complex .f64 0 0), (.complex .f64 0 0), (.complex .f64 0 0), (.complex .f64 0 0), (.complex .f64 0 0), (.complex .f64 0 0), (.complex .f64 0 0)]) (.int .i64 13)).run Try.prog W = .ok (.complex .f64 0 0) W := fun _ => by kernel_rfl
  have i14 : ∀ W, (Instr.index 50 (.agg #[(.complex .f64 4607182418800017408 4619567317775286272), (.complex .f64 0 0), (.complex .f64 0 0), (.complex .f64 4611686018427387904 4638144666238189568), (.complex .f64 0 0), (.complex .f64 0 0), (.complex .f64 0 0), (.complex .f64 0 0), (.complex .f64 0 0), (.complex .f64 0 0), (.complex .f64 0 0), (.complex .f64 0 0), (.complex .f64 0 0), (.complex .f64 0 0), (.complex .f64 0 0), (.complex .f64 0 0)]) (.int .i64 14)).run Try.prog W = .ok (.complex .f64 0 0) W := fun _ => by kernel_rfl
  have i15 : ∀ W, (Instr.index 50 (.agg #[(.complex .f64 4607182418800017408 4619567317775286272), (.complex .f64 0 0), (.complex .f64 0 0), (.complex .f64 4611686018427387904 4638144666238189568), (.complex .f64 0 0), (.complex .f64 0 0), (.complex .f64 0 0), (.complex .f64 0 0), (.complex .f64 0 0), (.complex .f64 0 0), (.complex .f64 0 0), (.complex .f64 0 0), (.complex .f64 0 0), (.complex .f64 0 0), (.complex .f64 0 0), (.complex .f64 0 0)]) (.int .i64 15)).run Try.prog W = .ok (.complex .f64 0 0) W := fun _ => by kernel_rfl
  have a0 : ∀ W, (binOp .add 25 (.complex .f64 0 0) (.complex .f64 4607182418800017408 4619567317775286272)).run Try.prog W = .ok (.complex .f64 4607182418800017408 4619567317775286272) W := fun _ => by kernel_rfl
  have a1 : ∀ W, (binOp .add 25 (.complex .f64 4607182418800017408 4619567317775286272) (.complex .f64 0 0)).run Try.prog W = .ok (.complex .f64 4607182418800017408 4619567317775286272) W := fun _ => by kernel_rfl
  have a2 : ∀ W, (binOp .add 25 (.complex .f64 4607182418800017408 4619567317775286272) (.complex .f64 4611686018427387904 4638144666238189568)).run Try.prog W = .ok (.complex .f64 4613937818241073152 4638637247447433216) W := fun _ => by kernel_rfl
  have a3 : ∀ W, (binOp .add 25 (.complex .f64 4613937818241073152 4638637247447433216) (.complex .f64 0 0)).run Try.prog W = .ok (.complex .f64 4613937818241073152 4638637247447433216) W := fun _ => by kernel_rfl
  clear hB
  go_enter Try.func19, Try.ntmps19
  go_wp2
  refine wp_loop_rounds 17 ?_
  iterate 17
    rw [rounds_succ]
    go_wp2
  go_ret
  exact ⟨rfl, rfl⟩
end Go.Proofs.Ytpmhncblhdddhaa
