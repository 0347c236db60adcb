/- prefix.Of, prefix.Bit. -/
import Derived.Test.YtejddfgmfdpnfaaDoorVp
import Derived.Laws.ResultCell
namespace Go.Proofs.YtejddfgmfdpnfaaDoor
open Go.RowKit
theorem ret_cell2 {fn : Func} {p u : Tmp} {ty : TypeId} {tmps cs : Array Value} {w : World} {g : Nat} {fs} {R : Ending → World → Prop} (hr : fn.results = #[.cell p ty, .tmp u]) (hp : tmps.getD p undef = .pointer (some ⟨g, 0, none⟩)) (hb : Blk w g ty cs)
    (hu : Tryd.prog.underlying ty = some (.struct fs)) (hi : (Tryd.prog.info? ty).map (·.size) = some cs.size) (hR : R (.returned (.tuple #[.agg cs, tmps.getD u undef])) w) : bodyPost Tryd.prog fn R .ret ⟨tmps, []⟩ w := by
  refine bodyPost_ret_by ?_ rfl hR
  rw [results_cell_tmp hr, hp]
  simp [asAddr, Result.andThen, run_loadVar_row w g ty ty cs (0, 0) _ hb hu rfl hi]
def ofP (a : Ad) (m : Int) : Px × Int := if validA a = true ∧ 0 ≤ m ∧ m ≤ (widthA a : Int) then (⟨cutA a m, m⟩, 0) else (⟨⟨false, 0, 0⟩, 0⟩, 1)
theorem Blk.row {w : World} {g : Nat} {t : TypeId} {old : Array Value} (k : Blk w g t old) (cs : Array Value) : Blk (w.setRow g cs) g t cs := setRow_heap w g old cs t (0, 0) k
theorem Fr.setRow {S : Nat → Prop} {a w : World} (h : Fr S a w) {g : Nat} (hg : S g ∨ a.heap.size ≤ g) (cs : Array Value) : Fr S a (w.setRow g cs) :=
  ⟨h.os, h.tape, h.output, by simpa using h.size, fun i hi hn => (setRow_other w g i cs (by
    rintro rfl
    rcases hg with hp | hp
    · exact hn hp
    · omega)).trans (h.block i hi hn)⟩
theorem Blk.adx {w : World} {g : Nat} {t : TypeId} {s : Bool} {h l : Nat} (k : Blk w g t #[.bool s, .int .u64 (h : Int), .int .u64 (l : Int)]) : AdX w g s h l := ⟨k.cell 0, k.cell 1, k.cell 2⟩
theorem Blk.pxx {w : World} {g : Nat} {t : TypeId} {s : Bool} {h l : Nat} {m : Int} (k : Blk w g t #[.bool s, .int .u64 (h : Int), .int .u64 (l : Int), .int .i64 m]) : PxX w g s h l m := ⟨k.cell 0, k.cell 1, k.cell 2, k.cell 3⟩
section
variable {w : World}
end
end Go.Proofs.YtejddfgmfdpnfaaDoor
