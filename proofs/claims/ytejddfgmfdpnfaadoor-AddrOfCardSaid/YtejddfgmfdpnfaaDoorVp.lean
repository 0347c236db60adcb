/- prefix.Valid. -/
import Derived.Test.YtejddfgmfdpnfaaDoorCu
import Derived.Test.YtejddfgmfdpnfaaDoorQr
namespace Go.Proofs.YtejddfgmfdpnfaaDoor
open Go.RowKit
def pxV (p : Px) : Value := .agg #[.bool p.ad.six, .int .u64 (p.ad.hi : Int), .int .u64 (p.ad.lo : Int), .int .i64 p.bits]
structure Px.ok (p : Px) : Prop where
  ad : p.ad.ok
  lo : -9223372036854775808 ≤ p.bits
  hi : p.bits ≤ 9223372036854775807
/-- The cells of a block with an address. -/
def AdX (w : World) (g : Nat) (s : Bool) (h l : Nat) : Prop :=
  w.cell? ⟨g, 0, none⟩ = some (.bool s) ∧ w.cell? ⟨g, 1, none⟩ = some (.int .u64 (h : Int)) ∧ w.cell? ⟨g, 2, none⟩ = some (.int .u64 (l : Int))
/-- The cells of a block with a prefix. -/
def PxX (w : World) (g : Nat) (s : Bool) (h l : Nat) (m : Int) : Prop :=
  w.cell? ⟨g, 0, none⟩ = some (.bool s) ∧ w.cell? ⟨g, 1, none⟩ = some (.int .u64 (h : Int)) ∧ w.cell? ⟨g, 2, none⟩ = some (.int .u64 (l : Int)) ∧ w.cell? ⟨g, 3, none⟩ = some (.int .i64 m)
theorem PxX.fr {w W : World} {g : Nat} {s : Bool} {h l : Nat} {m : Int} {S : Nat → Prop} (k : PxX w g s h l m) (hf : Fr S w W) (hg : g < w.heap.size) (hS : ¬ S g) : PxX W g s h l m :=
  ⟨(hf.cell (p := ⟨g, 0, none⟩) hg hS).trans k.1, (hf.cell (p := ⟨g, 1, none⟩) hg hS).trans k.2.1, (hf.cell (p := ⟨g, 2, none⟩) hg hS).trans k.2.2.1, (hf.cell (p := ⟨g, 3, none⟩) hg hS).trans k.2.2.2⟩
theorem AdX.fr {w W : World} {g : Nat} {s : Bool} {h l : Nat} {S : Nat → Prop} (k : AdX w g s h l) (hf : Fr S w W) (hg : g < w.heap.size) (hS : ¬ S g) : AdX W g s h l :=
  ⟨(hf.cell (p := ⟨g, 0, none⟩) hg hS).trans k.1, (hf.cell (p := ⟨g, 1, none⟩) hg hS).trans k.2.1, (hf.cell (p := ⟨g, 2, none⟩) hg hS).trans k.2.2⟩
theorem PxX.new (w : World) (t : TypeId) (s : Bool) (h l : Nat) (m : Int) : PxX (w.alloc (.cells #[.bool s, .int .u64 (h : Int), .int .u64 (l : Int), .int .i64 m] t)) w.heap.size s h l m :=
  ⟨(Blk.new _ _ _).cell 0, (Blk.new _ _ _).cell 1, (Blk.new _ _ _).cell 2, (Blk.new _ _ _).cell 3⟩
theorem AdX.new (w : World) (t : TypeId) (s : Bool) (h l : Nat) : AdX (w.alloc (.cells #[.bool s, .int .u64 (h : Int), .int .u64 (l : Int)] t)) w.heap.size s h l :=
  ⟨(Blk.new _ _ _).cell 0, (Blk.new _ _ _).cell 1, (Blk.new _ _ _).cell 2⟩
theorem size_new (w : World) (o : Obj) : w.heap.size < (w.alloc o).heap.size := by simp
section
variable {w : World}
end
end Go.Proofs.YtejddfgmfdpnfaaDoor
