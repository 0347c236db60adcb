/- cut. -/
import Derived.Test.YtejddfgmfdpnfaaDoorVa
import Derived.Laws.Rows
namespace Go.Proofs.YtejddfgmfdpnfaaDoor
open Go.RowKit
theorem Blk.alloc2 (w : World) (A : Obj) (t : TypeId) (cs : Array Value) : Blk ((w.alloc A).alloc (.cells cs t)) (w.heap.size + 1) t cs := heap_alloc2_new w A _
/-- A result that lies in a block. -/
theorem ret_cell {fn : Func} {p : Tmp} {ty : TypeId} {tmps cs : Array Value} {w : World} {g : Nat} {fs} {R : Ending → World → Prop} (hr : fn.results = #[.cell p ty]) (hp : tmps.getD p undef = .pointer (some ⟨g, 0, none⟩)) (hb : Blk w g ty cs)
    (hu : Tryd.prog.underlying ty = some (.struct fs)) (hi : (Tryd.prog.info? ty).map (·.size) = some cs.size) (hR : R (.returned (.agg cs)) w) : bodyPost Tryd.prog fn R .ret ⟨tmps, []⟩ w :=
  bodyPost_ret_by (results_cell_row hr tmps w g ty cs (0, 0) _ hp hb hu rfl hi) rfl hR
section
variable {w : World}
end
end Go.Proofs.YtejddfgmfdpnfaaDoor
