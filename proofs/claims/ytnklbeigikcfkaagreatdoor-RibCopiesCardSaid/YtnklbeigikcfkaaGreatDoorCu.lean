/- cut. -/
import Derived.Test.YtnklbeigikcfkaaGreatDoorVa
import Derived.Laws.Rows
namespace Go.Proofs.YtnklbeigikcfkaaGreatDoor
open Go.RowKit
theorem Blk.alloc2 (w : World) (A : Obj) (t : TypeId) (cs : Array Value) : Blk ((w.alloc A).alloc (.cells cs t)) (w.heap.size + 1) t cs := heap_alloc2_new w A _
/-- A result that lies in a block. -/
theorem ret_cell {fn : Func} {p : Tmp} {ty : TypeId} {tmps cs : Array Value} {w : World} {g : Nat} {fs} {R : Ending → World → Prop} (hr : fn.results = #[.cell p ty]) (hp : tmps.getD p undef = .pointer (some ⟨g, 0, none⟩)) (hb : Blk w g ty cs)
    (hu : Tryz.prog.underlying ty = some (.struct fs)) (hi : (Tryz.prog.info? ty).map (·.size) = some cs.size) (hR : R (.returned (.agg cs)) w) : bodyPost Tryz.prog fn R .ret ⟨tmps, []⟩ w :=
  bodyPost_ret_by (results_cell_row hr tmps w g ty cs (0, 0) _ hp hb hu rfl hi) rfl hR
section
variable {w : World}
set_option maxHeartbeats 1600000 in
set_option maxRecDepth 100000 in
theorem cut_ (a : Ad) (ho : a.ok) (m : Int) (h1 : 0 ≤ m) (h2 : m ≤ 128) : Calls Tryz.prog 67 #[adV a, .int .i64 m] w fun e w' => e = .returned (adV (cutA a m)) ∧ Fr N0 w w' := by
  obtain ⟨s, h, l⟩ := a
  obtain ⟨ho1, ho2⟩ := ho
  simp only at ho1 ho2
  have f64 : ∀ (w : World) (n : Nat) (hn : n < 18446744073709551616) (m : Int) (h1 : -9223372036854775808 ≤ m) (h2 : m ≤ 9223372036854775807), Calls Tryz.prog 87 #[.int .u64 n, .int .i64 m, .int .i64 64] w fun e w' => e = .returned (.int .u64 (first n m 64)) ∧ w = w' := fun w n hn m h1 h2 => fst_ n hn m h1 h2 64 (by omega)
  have f32 : ∀ (w : World) (n : Nat) (hn : n < 18446744073709551616) (m : Int) (h1 : -9223372036854775808 ≤ m) (h2 : m ≤ 9223372036854775807), Calls Tryz.prog 87 #[.int .u64 n, .int .i64 m, .int .i64 32] w fun e w' => e = .returned (.int .u64 (first n m 32)) ∧ w = w' := fun w n hn m h1 h2 => fst_ n hn m h1 h2 32 (by omega)
  cases s with
  | true =>
    go_enter Tryz.func67, Tryz.ntmps67
    unfold adV
    go_wp2_with fail
    have hw64 : IntKind.i64.wrap (m - 64) = m - 64 := IntWalk.i64_in _ (by omega)
    go_region_with (go_at_call 87; refine (f64 _ _ (by omega) _ (by omega) (by omega)).mono ?_; rintro e w2 ⟨rfl, rfl⟩)
    all_goals go_wp2_with fail
    all_goals refine ret_cell rfl rfl (Blk.alloc2 _ _ _ _) Tryz.underlying30 rfl ⟨?_, by repeat first | exact Fr.refl _ _ | refine Fr.drewN ?_ _ | refine Fr.drew ?_ | refine Fr.alloc ?_ _⟩
    all_goals simp [cutA]
  | false =>
    go_enter Tryz.func67, Tryz.ntmps67
    unfold adV
    go_wp2_with fail
    refine (f32 _ l ho2 m (by omega) (by omega)).mono ?_
    rintro e w2 ⟨rfl, rfl⟩
    go_wp2_with fail
    refine ret_cell rfl rfl (Blk.alloc2 _ _ _ _) Tryz.underlying30 rfl ⟨?_, by repeat first | exact Fr.refl _ _ | refine Fr.drewN ?_ _ | refine Fr.drew ?_ | refine Fr.alloc ?_ _⟩
    simp [cutA]
end
end Go.Proofs.YtnklbeigikcfkaaGreatDoor
