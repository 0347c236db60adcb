/- Addresses as values: ==, Valid, Less. -/
import Derived.Test.YtnklbeigikcfkaaGreatDoorBase
import Derived.Test.YtnklbeigikcfkaaGreatDoorPc
import Derived.Test.YtnklbeigikcfkaaGreatDoorProg
import Derived.Laws.StructEq
namespace Go.Proofs.YtnklbeigikcfkaaGreatDoor
open Go.RowKit

def adV (a : Ad) : Value := .agg #[.bool a.six, .int .u64 (a.hi : Int), .int .u64 (a.lo : Int)]
theorem eql_ad (x y : Ad) (w : World) : (binOp .eql 30 (adV x) (adV y)).run Tryz.prog w = .ok (.bool (decide (x = y))) w := by
  have hS : Tryz.prog.underlying 30 = some (.struct (Tryz.prog.fieldsOf 30)) := by kernel_rfl
  have hp : Tryz.prog.stoodInHeld 30 = false := by kernel_rfl
  have u3 := Tryz.underlying28
  have u4 := Tryz.underlying4
  have a3 := Tryz.isAgg28
  have a4 := Tryz.isAgg4
  have z3 := Tryz.sizeOf28
  have z4 := Tryz.sizeOf4
  unfold adV
  rw [run_eql_struct, show (10000 : Nat) = 9999 + 1 from rfl, run_equalIn_agg w 9999 30 _ _ hS hp]
  simp only [Program.fieldsOf, Tryz.underlying30]
  go_simp
  obtain ⟨s1, h1, l1⟩ := x
  obtain ⟨s2, h2, l2⟩ := y
  by_cases e1 : s1 = s2 <;> by_cases e2 : h1 = h2 <;> by_cases e3 : l1 = l2 <;> simp [e1, e2, e3] <;> omega
theorem guard_ad (o : BinOp) (X Y : Operand) (x y : Ad) (w : World) : (eqGuard o 30 X Y (adV x) (adV y)).run Tryz.prog w = .ok () w :=
  run_eqGuard_agg w o _ X Y _ _ (by kernel_rfl)
end Go.Proofs.YtnklbeigikcfkaaGreatDoor
