/- Addresses as values: ==, Valid, Less. -/
import Derived.Test.YtnklbeigikcfkaaDoorBase
import Derived.Test.YtnklbeigikcfkaaDoorPc
import Derived.Test.YtnklbeigikcfkaaDoorProg
import Derived.Laws.StructEq
namespace Go.Proofs.YtnklbeigikcfkaaDoor
open Go.RowKit

def adV (a : Ad) : Value := .agg #[.bool a.six, .int .u64 (a.hi : Int), .int .u64 (a.lo : Int)]
theorem eql_ad (x y : Ad) (w : World) : (binOp .eql 24 (adV x) (adV y)).run Tryd.prog w = .ok (.bool (decide (x = y))) w := by
  have hS : Tryd.prog.underlying 24 = some (.struct (Tryd.prog.fieldsOf 24)) := by kernel_rfl
  have hp : Tryd.prog.stoodInHeld 24 = false := by kernel_rfl
  have u3 := Tryd.underlying22
  have u4 := Tryd.underlying4
  have a3 := Tryd.isAgg22
  have a4 := Tryd.isAgg4
  have z3 := Tryd.sizeOf22
  have z4 := Tryd.sizeOf4
  unfold adV
  rw [run_eql_struct, show (10000 : Nat) = 9999 + 1 from rfl, run_equalIn_agg w 9999 24 _ _ hS hp]
  simp only [Program.fieldsOf, Tryd.underlying24]
  go_simp
  obtain ⟨s1, h1, l1⟩ := x
  obtain ⟨s2, h2, l2⟩ := y
  by_cases e1 : s1 = s2 <;> by_cases e2 : h1 = h2 <;> by_cases e3 : l1 = l2 <;> simp [e1, e2, e3] <;> omega
theorem guard_ad (o : BinOp) (X Y : Operand) (x y : Ad) (w : World) : (eqGuard o 24 X Y (adV x) (adV y)).run Tryd.prog w = .ok () w :=
  run_eqGuard_agg w o _ X Y _ _ (by kernel_rfl)
end Go.Proofs.YtnklbeigikcfkaaDoor
