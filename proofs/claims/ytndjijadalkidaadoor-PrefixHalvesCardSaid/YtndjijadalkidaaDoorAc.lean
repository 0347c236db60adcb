/- The chapter's examples: prefixes compared, ten, and what the examples' calls answer. -/
import Derived.Test.YtndjijadalkidaaDoorPq
namespace Go.Proofs.YtndjijadalkidaaDoor
open Go.Proofs Go.Shelf Go.RowKit
theorem eqin_ad (d : Nat) (x y : Ad) (w : World) : (Op.equalIn (d + 2) 24 (adV x) (adV y)).run Tryd.prog w = .ok (decide (x = y)) w := by
  have hS : Tryd.prog.underlying 24 = some (.struct (Tryd.prog.fieldsOf 24)) := by kernel_rfl
  have hp : Tryd.prog.stoodInHeld 24 = false := by kernel_rfl
  have u3 := Tryd.underlying22
  have u4 := Tryd.underlying4
  have a3 := Tryd.isAgg22
  have a4 := Tryd.isAgg4
  have z3 := Tryd.sizeOf22
  have z4 := Tryd.sizeOf4
  unfold adV
  rw [run_equalIn_agg w (d + 1) 24 _ _ hS hp]
  simp only [Program.fieldsOf, Tryd.underlying24]
  clear hS hp
  go_simp
  obtain ⟨s1, h1, l1⟩ := x
  obtain ⟨s2, h2, l2⟩ := y
  by_cases e1 : s1 = s2 <;> by_cases e2 : h1 = h2 <;> by_cases e3 : l1 = l2 <;> simp [e1, e2, e3] <;> omega
set_option maxRecDepth 100000 in
theorem eql_px (x y : Px) (w : World) : (binOp .eql 26 (pxV x) (pxV y)).run Tryd.prog w = .ok (.bool (decide (x = y))) w := by
  have hS : Tryd.prog.underlying 26 = some (.struct (Tryd.prog.fieldsOf 26)) := by kernel_rfl
  have hp : Tryd.prog.stoodInHeld 26 = false := by kernel_rfl
  have u5 := Tryd.underlying3
  have a5 := Tryd.isAgg3
  have a6 := Tryd.isAgg24
  have z5 := Tryd.sizeOf3
  have z6 := Tryd.sizeOf24
  have E := fun W => eqin_ad 9997 x.ad y.ad W
  unfold adV at E
  unfold pxV
  rw [run_eql_struct, show (10000 : Nat) = 9999 + 1 from rfl, run_equalIn_agg w 9999 26 _ _ hS hp]
  simp only [Program.fieldsOf, Tryd.underlying26]
  clear hS hp
  go_simp
  obtain ⟨a, m⟩ := x
  obtain ⟨b, k⟩ := y
  by_cases e1 : a = b <;> by_cases e2 : m = k <;> simp [e1, e2]
theorem guard_px (o : BinOp) (X Y : Operand) (x y : Px) (w : World) : (eqGuard o 26 X Y (pxV x) (pxV y)).run Tryd.prog w = .ok () w :=
  run_eqGuard_agg w o _ X Y _ _ (by kernel_rfl)
def tenP (m : Int) : Px := ⟨⟨false, 0, 167772160⟩, m⟩
section
variable {w : World}
set_option maxRecDepth 100000 in
theorem ten_ (m : Int) : Calls Tryd.prog 28 #[.int .i64 m] w fun e w' => e = .returned (pxV (tenP m)) ∧ Fr N0 w w' := by
  go_enter Tryd.func28, Tryd.ntmps28
  go_wp2_with fail
  exact ret_cell rfl rfl (Blk.new _ _ _) Tryd.underlying26 rfl ⟨rfl, (Fr.refl _ _).alloc _⟩
/-- 10.0.0.0/8, 10.0.0.1/8 -/
def s0 : ByteArray := ⟨#[49, 48, 46, 48, 46, 48, 46, 48, 47, 56]⟩
def s1 : ByteArray := ⟨#[49, 48, 46, 48, 46, 48, 46, 49, 47, 56]⟩
def d0 : ByteArray := ⟨#[49, 48, 46, 48, 46, 48, 46, 48]⟩
def d1 : ByteArray := ⟨#[49, 48, 46, 48, 46, 48, 46, 49]⟩
theorem dec10 : Dec ⟨#[49, 48]⟩ 10 := ⟨by decide +kernel, by decide, by decide +kernel, by decide, .inr fun h => by show (49 : UInt8).toNat ≠ 48; decide⟩
theorem dec0 : Dec ⟨#[48]⟩ 0 := ⟨by decide +kernel, by decide, by decide +kernel, by decide, .inl rfl⟩
theorem dec1 : Dec ⟨#[49]⟩ 1 := ⟨by decide +kernel, by decide, by decide +kernel, by decide, .inl rfl⟩
theorem parse_s0 (m : Int) (hm : Mx m w) : Calls Tryd.prog 23 #[.string s0] w fun e w' => e = .returned (.tuple #[pxV (tenP 8), .int .i64 0]) ∧ Fr N0 w w' := by
  have h := pparse s0 d0 ⟨#[56]⟩ m hm ⟨false, 0, 167772160⟩ 8 ⟨⟨by decide, by decide⟩, by decide, by decide⟩
    (fun W hW => cut_any s0 ⟨#[47]⟩ m W hW (by decide) d0 ⟨#[56]⟩ true (by decide +kernel) (by decide +kernel) (by decide +kernel))
    (fun W hW => by
      have := parse4 (w := W) d0 m hW (by decide) [⟨#[49, 48]⟩, ⟨#[48]⟩, ⟨#[48]⟩, ⟨#[48]⟩] [10, 0, 0, 0] (by decide +kernel) rfl rfl (by
        intro j t u ht hu
        match j, ht, hu with
        | 0, ht, hu => cases ht; cases hu; exact dec10
        | 1, ht, hu => cases ht; cases hu; exact dec0
        | 2, ht, hu => cases ht; cases hu; exact dec0
        | 3, ht, hu => cases ht; cases hu; exact dec0
        | j + 4, ht, _ => cases ht)
      exact this)
    (fun W => many8)
  rw [show parsP ⟨false, 0, 167772160⟩ 8 = (tenP 8, 0) by decide +kernel] at h
  exact h
theorem parse_s1 (m : Int) (hm : Mx m w) : Calls Tryd.prog 23 #[.string s1] w fun e w' => e = .returned (.tuple #[pxV ⟨⟨false, 0, 0⟩, 0⟩, .int .i64 30]) ∧ Fr N0 w w' := by
  have h := pparse s1 d1 ⟨#[56]⟩ m hm ⟨false, 0, 167772161⟩ 8 ⟨⟨by decide, by decide⟩, by decide, by decide⟩
    (fun W hW => cut_any s1 ⟨#[47]⟩ m W hW (by decide) d1 ⟨#[56]⟩ true (by decide +kernel) (by decide +kernel) (by decide +kernel))
    (fun W hW => by
      have := parse4 (w := W) d1 m hW (by decide) [⟨#[49, 48]⟩, ⟨#[48]⟩, ⟨#[48]⟩, ⟨#[49]⟩] [10, 0, 0, 1] (by decide +kernel) rfl rfl (by
        intro j t u ht hu
        match j, ht, hu with
        | 0, ht, hu => cases ht; cases hu; exact dec10
        | 1, ht, hu => cases ht; cases hu; exact dec0
        | 2, ht, hu => cases ht; cases hu; exact dec0
        | 3, ht, hu => cases ht; cases hu; exact dec1
        | j + 4, ht, _ => cases ht)
      exact this)
    (fun W => many8)
  rw [show parsP ⟨false, 0, 167772161⟩ 8 = (⟨⟨false, 0, 0⟩, 0⟩, 30) by decide +kernel] at h
  exact h
theorem print_s0 (htab : T10 w) : Calls Tryd.prog 22 #[pxV (tenP 8)] w fun e w' => e = .returned (.string s0) ∧ Fr N0 w w' := by
  have h := pprint (tenP 8) ⟨⟨by decide, by decide⟩, by decide, by decide⟩ (by decide +kernel) (txt4 167772160) (by decide +kernel) htab (fun W hW => prt4 167772160 (by decide) (htab.fr hW))
  rw [show pxT (txt4 167772160) (tenP 8).bits = s0 by decide +kernel] at h
  exact h
end
end Go.Proofs.YtndjijadalkidaaDoor
