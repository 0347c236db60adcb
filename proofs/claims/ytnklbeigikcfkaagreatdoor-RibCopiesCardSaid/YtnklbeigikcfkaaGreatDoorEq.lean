/- Prefixes compared; paths as values, compared. -/
import Derived.Test.YtnklbeigikcfkaaGreatDoorVp
import Derived.Test.YtnklbeigikcfkaaGreatDoorRp1
namespace Go.Proofs.YtnklbeigikcfkaaGreatDoor
open Go.Proofs Go.RowKit
theorem eqin_ad (d : Nat) (x y : Ad) (w : World) : (Op.equalIn (d + 2) 30 (adV x) (adV y)).run Tryz.prog w = .ok (decide (x = y)) w := by
  have hS : Tryz.prog.underlying 30 = some (.struct (Tryz.prog.fieldsOf 30)) := by kernel_rfl
  have hp : Tryz.prog.stoodInHeld 30 = false := by kernel_rfl
  have u3 := Tryz.underlying28
  have u4 := Tryz.underlying4
  have a3 := Tryz.isAgg28
  have a4 := Tryz.isAgg4
  have z3 := Tryz.sizeOf28
  have z4 := Tryz.sizeOf4
  unfold adV
  rw [run_equalIn_agg w (d + 1) 30 _ _ hS hp]
  simp only [Program.fieldsOf, Tryz.underlying30]
  clear hS hp
  go_simp
  obtain ⟨s1, h1, l1⟩ := x
  obtain ⟨s2, h2, l2⟩ := y
  by_cases e1 : s1 = s2 <;> by_cases e2 : h1 = h2 <;> by_cases e3 : l1 = l2 <;> simp [e1, e2, e3] <;> omega
set_option maxRecDepth 100000 in
theorem eql_px (x y : Px) (w : World) : (binOp .eql 32 (pxV x) (pxV y)).run Tryz.prog w = .ok (.bool (decide (x = y))) w := by
  have hS : Tryz.prog.underlying 32 = some (.struct (Tryz.prog.fieldsOf 32)) := by kernel_rfl
  have hp : Tryz.prog.stoodInHeld 32 = false := by kernel_rfl
  have u5 := Tryz.underlying3
  have a5 := Tryz.isAgg3
  have a6 := Tryz.isAgg30
  have z5 := Tryz.sizeOf3
  have z6 := Tryz.sizeOf30
  have E := fun W => eqin_ad 9997 x.ad y.ad W
  unfold adV at E
  unfold pxV
  rw [run_eql_struct, show (10000 : Nat) = 9999 + 1 from rfl, run_equalIn_agg w 9999 32 _ _ hS hp]
  simp only [Program.fieldsOf, Tryz.underlying32]
  clear hS hp
  go_simp
  obtain ⟨a, m⟩ := x
  obtain ⟨b, k⟩ := y
  by_cases e1 : a = b <;> by_cases e2 : m = k <;> simp [e1, e2]
theorem guard_px (o : BinOp) (X Y : Operand) (x y : Px) (w : World) : (eqGuard o 32 X Y (pxV x) (pxV y)).run Tryz.prog w = .ok () w :=
  run_eqGuard_agg w o _ X Y _ _ (by kernel_rfl)
theorem nq_px (x y : Px) (w : World) : (binOp .neq 32 (pxV x) (pxV y)).run Tryz.prog w = .ok (.bool (!decide (x = y))) w := by
  have h := eql_px x y w
  unfold pxV at *
  rw [run_eql_struct] at h
  rw [run_neq_struct]
  revert h
  generalize (Op.equalIn 10000 _ _ _).run Tryz.prog w = r
  intro h
  cases r with
  | ok b w' => simp only [Result.andThen_ok, Result.ok.injEq, Value.bool.injEq] at h ⊢; obtain ⟨rfl, rfl⟩ := h; exact ⟨rfl, rfl⟩
  | halt x w' => simp [Result.andThen] at h
theorem Blk.c7 {w : World} {g : Nat} {t : TypeId} {a b c d e f i : Value} (k : Blk w g t #[a, b, c, d, e, f, i]) : w.cell? ⟨g, 0, none⟩ = some a ∧ w.cell? ⟨g, 1, none⟩ = some b ∧ w.cell? ⟨g, 2, none⟩ = some c ∧ w.cell? ⟨g, 3, none⟩ = some d ∧ w.cell? ⟨g, 4, none⟩ = some e ∧ w.cell? ⟨g, 5, none⟩ = some f ∧ w.cell? ⟨g, 6, none⟩ = some i := ⟨k.cell 0, k.cell 1, k.cell 2, k.cell 3, k.cell 4, k.cell 5, k.cell 6⟩
theorem Blk.c1' {w : World} {g : Nat} {t : TypeId} {a : Value} (k : Blk w g t #[a]) : w.cell? ⟨g, 0, none⟩ = some a := k.cell 0
/-- A path as a value. -/
def Pa.cs (x : Pa) : List Value := [.int .i64 x.proto, .int .i64 x.metric, .bool x.via.six, .int .u64 (x.via.hi : Int), .int .u64 (x.via.lo : Int), .int .i64 x.port, .bool x.away]
def paV (x : Pa) : Value := .agg #[.int .i64 x.proto, .int .i64 x.metric, .bool x.via.six, .int .u64 (x.via.hi : Int), .int .u64 (x.via.lo : Int), .int .i64 x.port, .bool x.away]
theorem eqin_pa (d : Nat) (x y : Pa) (w : World) : (Op.equalIn (d + 4) 34 (paV x) (paV y)).run Tryz.prog w = .ok (decide (x = y)) w := by
  have hS : Tryz.prog.underlying 34 = some (.struct (Tryz.prog.fieldsOf 34)) := by kernel_rfl
  have hp : Tryz.prog.stoodInHeld 34 = false := by kernel_rfl
  have u4 := Tryz.underlying4
  have u5 := Tryz.underlying3
  have a4 := Tryz.isAgg4
  have a5 := Tryz.isAgg3
  have a6 := Tryz.isAgg30
  have z4 := Tryz.sizeOf4
  have z5 := Tryz.sizeOf3
  have z6 := Tryz.sizeOf30
  have E := fun W => eqin_ad (d + 1) x.via y.via W
  unfold adV at E
  unfold paV
  rw [run_equalIn_agg w (d + 3) 34 _ _ hS hp]
  simp only [Program.fieldsOf, Tryz.underlying34]
  clear hS hp
  go_simp
  obtain ⟨p1, m1, v1, o1, b1⟩ := x
  obtain ⟨p2, m2, v2, o2, b2⟩ := y
  by_cases e1 : p1 = p2 <;> by_cases e2 : m1 = m2 <;> by_cases e3 : v1 = v2 <;> by_cases e4 : o1 = o2 <;> by_cases e5 : b1 = b2 <;> simp [e1, e2, e3, e4, e5]
theorem eql_pa (x y : Pa) (w : World) : (binOp .eql 34 (paV x) (paV y)).run Tryz.prog w = .ok (.bool (decide (x = y))) w := by
  have h := eqin_pa 9996 x y w
  unfold paV at *
  rw [run_eql_struct, show (10000 : Nat) = 9996 + 4 from rfl, h]
  rfl
theorem nq_pa (x y : Pa) (w : World) : (binOp .neq 34 (paV x) (paV y)).run Tryz.prog w = .ok (.bool (!decide (x = y))) w := by
  have h := eqin_pa 9996 x y w
  unfold paV at *
  rw [run_neq_struct, show (10000 : Nat) = 9996 + 4 from rfl, h]
  rfl
theorem guard_pa (o : BinOp) (X Y : Operand) (x y : Pa) (w : World) : (eqGuard o 34 X Y (paV x) (paV y)).run Tryz.prog w = .ok () w :=
  run_eqGuard_agg w o _ X Y _ _ (by kernel_rfl)
end Go.Proofs.YtnklbeigikcfkaaGreatDoor
