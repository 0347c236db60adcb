/- prefix.Print, over what the address is told as. The chapter's examples: prefixes compared, ten, and what the examples' calls answer. awake: the chapter's examples hold. The arguments of the chapter's statements, opened; what the listed variables hold. What the listed variables hold, for texts of six: the table of ten's powers, de Bruijn's table, the error for syntax. prefix.Parse of any text that is not too long; prefix.Print of any prefix; what a prefix is told as is read as it. -/
import Derived.Test.YtcameghlkplgfaaGreatDoorQa
import Derived.Test.YtcameghlkplgfaaGreatDoorBi
import Derived.Test.YtcameghlkplgfaaGreatDoorOpen
import Derived.Shelf.LaysM
import Derived.Lib.LaidTab
import Derived.LaidSub
import Derived.MakeChecks
import Derived.Test.YtcameghlkplgfaaGreatDoorQb
import Derived.Test.YtcameghlkplgfaaGreatDoorNn
namespace Go.Proofs.YtcameghlkplgfaaGreatDoor
open Go.Proofs Go.Shelf Go.RowKit Go.Lib
shelf_lay LaysM.n171 Nm 171 at Tryz as Tryz.itoaM
/-- What a prefix is told as: the address's text, a slash, the bits. -/
def pxT (A : ByteArray) (m : Int) : ByteArray := A ++ ⟨#[47]⟩ ++ ⟨(Lib.itoa m).toArray⟩
section
variable {w : World}
theorem itoa_ (m : Int) (h1 : -9223372036854775808 ≤ m) (h2 : m ≤ 9223372036854775807) (htab : T10 w) : Calls Tryz.prog 24 #[.int .i64 m] w fun e w' => e = .returned (.string ⟨(Lib.itoa m).toArray⟩) ∧ Fr N0 w w' := by
  refine (Any.strconv_Itoa Tryz.itoaM m h1 h2 w htab).mono ?_
  rintro e w' ⟨rfl, k, os, rfl⟩
  exact ⟨rfl, Fr.regrow _ _ _⟩
set_option maxHeartbeats 1600000 in
set_option maxRecDepth 100000 in
theorem pprint (p : Px) (ho : p.ok) (hv : validP p = true) (A : ByteArray) (hA : A.size ≤ 1000) (htab : T10 w) (h38 : ∀ W : World, Fr N0 w W → Calls Tryz.prog 23 #[adV p.ad] W fun e w' => e = .returned (.string A) ∧ Fr N0 W w') :
    Calls Tryz.prog 7 #[pxV p] w fun e w' => e = .returned (.string (pxT A p.bits)) ∧ Fr N0 w w' := by
  obtain ⟨⟨s, h, l⟩, m⟩ := p
  have k14 : ∀ (w : World), Calls Tryz.prog 12 #[.agg #[.bool s, .int .u64 (h : Int), .int .u64 (l : Int), .int .i64 m]] w fun e w' => e = .returned (.bool true) ∧ Fr N0 w w' := fun w => hv ▸ val_ (w := w) ⟨⟨s, h, l⟩, m⟩ ho
  have k39 : ∀ (W : World), Fr N0 w W → Calls Tryz.prog 24 #[.int .i64 m] W fun e w' => e = .returned (.string ⟨(Lib.itoa m).toArray⟩) ∧ Fr N0 W w' := fun W hW => itoa_ (w := W) m ho.lo ho.hi (htab.fr hW)
  have hI : (Lib.itoa m).length ≤ 3 := by
    obtain ⟨_, k2, k3, _⟩ := (validP_iff ho.ad).1 hv
    have hw : widthA (⟨s, h, l⟩ : Ad) ≤ 128 := by unfold widthA; split <;> omega
    simp only at k2 k3
    obtain ⟨u, rfl⟩ : ∃ u : Nat, m = u := ⟨m.toNat, by omega⟩
    rw [Lib.itoa_nonneg]
    exact dd_le3 (by omega)
  unfold pxT
  generalize (Lib.itoa m) = I at *
  unfold adV at h38
  clear hv ho htab
  go_enter Tryz.func7, Tryz.ntmps7
  unfold pxV
  go_wp2_with fail
  have HA1 := Lib.hid (Blk.new w 26 #[Value.bool s, Value.int .u64 (h : Int), Value.int .u64 (l : Int), Value.int .i64 m])
  have HF1 := Lib.hid (Fr.alloc (Fr.refl N0 w) (.cells #[Value.bool s, Value.int .u64 (h : Int), Value.int .u64 (l : Int), Value.int .i64 m] 26))
  generalize w.alloc _ = w1 at *
  obtain ⟨g1, hg1⟩ : ∃ g1, g1 = w.heap.size := ⟨_, rfl⟩
  rw [← hg1] at HA1 ⊢
  have HG1 : Hid (w.heap.size ≤ g1) := Lib.hid (by omega)
  clear hg1
  have HZ1 : Hid (∀ W, Fr N0 w1 W → Blk W g1 26 #[Value.bool s, Value.int .u64 (h : Int), Value.int .u64 (l : Int), Value.int .i64 m]) := Lib.hid fun W hf => HA1.out.fr hf id
  have F := Lib.hid (Fr.refl N0 w1)
  obtain ⟨z1_0, z1_1, z1_2, z1_3⟩ := (HZ1.out _ F.out).c4
  go_wp2_with (first
    | (go_at_call 12; refine (k14 _).mono ?_; rintro e w2 ⟨rfl, hf⟩; have F := Lib.hid (F.out.trans hf); obtain ⟨z1_0, z1_1, z1_2, z1_3⟩ := (HZ1.out _ F.out).c4))
  have HF2 := Lib.hid (HF1.out.trans F.out)
  have z0 := fun x : Fam w2 => (HZ1.out x.w (F.out.trans x.fr)).c4.1
  have z1 := fun x : Fam w2 => (HZ1.out x.w (F.out.trans x.fr)).c4.2.1
  have z2 := fun x : Fam w2 => (HZ1.out x.w (F.out.trans x.fr)).c4.2.2.1
  have z3 := fun x : Fam w2 => (HZ1.out x.w (F.out.trans x.fr)).c4.2.2.2
  clear z1_0 z1_1 z1_2 z1_3
  have q38 := fun x : Fam w2 => h38 x.w (HF2.out.trans x.fr)
  have q39 := fun x : Fam w2 => k39 x.w (HF2.out.trans x.fr)
  clear h38 k39
  refine wp_region_fam (by kernel_rfl) (by kernel_rfl) ?_
  repeat (go_big_quiet_step ((first
    | (go_at_call 23; exact fam_call (q38 _))
    | (go_at_call 24; exact fam_call (q39 _)))))
  first | refine wpQuiet_nil ?_ | (go_big_quiet_want; go_big_quiet_op; done)
  rintro _ ⟨xq, rfl⟩
  go_wp2_with fail
  go_ret
  exact ⟨rfl, HF2.out.trans xq.fr⟩
end
end Go.Proofs.YtcameghlkplgfaaGreatDoor
namespace Go.Proofs.YtcameghlkplgfaaGreatDoor
open Go.Proofs Go.Shelf Go.RowKit
theorem eqin_ad (d : Nat) (x y : Ad) (w : World) : (Op.equalIn (d + 2) 24 (adV x) (adV y)).run Tryz.prog w = .ok (decide (x = y)) w := by
  have hS : Tryz.prog.underlying 24 = some (.struct (Tryz.prog.fieldsOf 24)) := by kernel_rfl
  have hp : Tryz.prog.stoodInHeld 24 = false := by kernel_rfl
  have u3 := Tryz.underlying22
  have u4 := Tryz.underlying4
  have a3 := Tryz.isAgg22
  have a4 := Tryz.isAgg4
  have z3 := Tryz.sizeOf22
  have z4 := Tryz.sizeOf4
  unfold adV
  rw [run_equalIn_agg w (d + 1) 24 _ _ hS hp]
  simp only [Program.fieldsOf, Tryz.underlying24]
  clear hS hp
  go_simp
  obtain ⟨s1, h1, l1⟩ := x
  obtain ⟨s2, h2, l2⟩ := y
  by_cases e1 : s1 = s2 <;> by_cases e2 : h1 = h2 <;> by_cases e3 : l1 = l2 <;> simp [e1, e2, e3] <;> omega
set_option maxRecDepth 100000 in
theorem eql_px (x y : Px) (w : World) : (binOp .eql 26 (pxV x) (pxV y)).run Tryz.prog w = .ok (.bool (decide (x = y))) w := by
  have hS : Tryz.prog.underlying 26 = some (.struct (Tryz.prog.fieldsOf 26)) := by kernel_rfl
  have hp : Tryz.prog.stoodInHeld 26 = false := by kernel_rfl
  have u5 := Tryz.underlying3
  have a5 := Tryz.isAgg3
  have a6 := Tryz.isAgg24
  have z5 := Tryz.sizeOf3
  have z6 := Tryz.sizeOf24
  have E := fun W => eqin_ad 9997 x.ad y.ad W
  unfold adV at E
  unfold pxV
  rw [run_eql_struct, show (10000 : Nat) = 9999 + 1 from rfl, run_equalIn_agg w 9999 26 _ _ hS hp]
  simp only [Program.fieldsOf, Tryz.underlying26]
  clear hS hp
  go_simp
  obtain ⟨a, m⟩ := x
  obtain ⟨b, k⟩ := y
  by_cases e1 : a = b <;> by_cases e2 : m = k <;> simp [e1, e2]
theorem guard_px (o : BinOp) (X Y : Operand) (x y : Px) (w : World) : (eqGuard o 26 X Y (pxV x) (pxV y)).run Tryz.prog w = .ok () w :=
  run_eqGuard_agg w o _ X Y _ _ (by kernel_rfl)
def tenP (m : Int) : Px := ⟨⟨false, 0, 167772160⟩, m⟩
section
variable {w : World}
set_option maxRecDepth 100000 in
theorem ten_ (m : Int) : Calls Tryz.prog 11 #[.int .i64 m] w fun e w' => e = .returned (pxV (tenP m)) ∧ Fr N0 w w' := by
  go_enter Tryz.func11, Tryz.ntmps11
  go_wp2_with fail
  exact ret_cell rfl rfl (Blk.new _ _ _) Tryz.underlying26 rfl ⟨rfl, (Fr.refl _ _).alloc _⟩
/-- 10.0.0.0/8, 10.0.0.1/8 -/
def s0 : ByteArray := ⟨#[49, 48, 46, 48, 46, 48, 46, 48, 47, 56]⟩
def s1 : ByteArray := ⟨#[49, 48, 46, 48, 46, 48, 46, 49, 47, 56]⟩
def d0 : ByteArray := ⟨#[49, 48, 46, 48, 46, 48, 46, 48]⟩
def d1 : ByteArray := ⟨#[49, 48, 46, 48, 46, 48, 46, 49]⟩
theorem dec10 : Dec ⟨#[49, 48]⟩ 10 := ⟨by decide +kernel, by decide, by decide +kernel, by decide, .inr fun h => by show (49 : UInt8).toNat ≠ 48; decide⟩
theorem dec0 : Dec ⟨#[48]⟩ 0 := ⟨by decide +kernel, by decide, by decide +kernel, by decide, .inl rfl⟩
theorem dec1 : Dec ⟨#[49]⟩ 1 := ⟨by decide +kernel, by decide, by decide +kernel, by decide, .inl rfl⟩
theorem parse_s0 (m : Int) (hm : Mx m w) : Calls Tryz.prog 5 #[.string s0] w fun e w' => e = .returned (.tuple #[pxV (tenP 8), .int .i64 0]) ∧ Fr N0 w w' := by
  have h := pparse s0 d0 ⟨#[56]⟩ m hm ⟨false, 0, 167772160⟩ 8 ⟨⟨by decide, by decide⟩, by decide, by decide⟩
    (fun W hW => cut_any s0 ⟨#[47]⟩ m W hW (by decide) d0 ⟨#[56]⟩ true (by decide +kernel) (by decide +kernel) (by decide +kernel))
    (fun W hW => by
      have := parse4 (w := W) d0 m hW (by decide) [⟨#[49, 48]⟩, ⟨#[48]⟩, ⟨#[48]⟩, ⟨#[48]⟩] [10, 0, 0, 0] (by decide +kernel) rfl rfl (by
        intro j t u ht hu
        match j, ht, hu with
        | 0, ht, hu => cases ht; cases hu; exact dec10
        | 1, ht, hu => cases ht; cases hu; exact dec0
        | 2, ht, hu => cases ht; cases hu; exact dec0
        | 3, ht, hu => cases ht; cases hu; exact dec0
        | j + 4, ht, _ => cases ht)
      exact this)
    (fun W => many8)
  rw [show parsP ⟨false, 0, 167772160⟩ 8 = (tenP 8, 0) by decide +kernel] at h
  exact h
theorem parse_s1 (m : Int) (hm : Mx m w) : Calls Tryz.prog 5 #[.string s1] w fun e w' => e = .returned (.tuple #[pxV ⟨⟨false, 0, 0⟩, 0⟩, .int .i64 30]) ∧ Fr N0 w w' := by
  have h := pparse s1 d1 ⟨#[56]⟩ m hm ⟨false, 0, 167772161⟩ 8 ⟨⟨by decide, by decide⟩, by decide, by decide⟩
    (fun W hW => cut_any s1 ⟨#[47]⟩ m W hW (by decide) d1 ⟨#[56]⟩ true (by decide +kernel) (by decide +kernel) (by decide +kernel))
    (fun W hW => by
      have := parse4 (w := W) d1 m hW (by decide) [⟨#[49, 48]⟩, ⟨#[48]⟩, ⟨#[48]⟩, ⟨#[49]⟩] [10, 0, 0, 1] (by decide +kernel) rfl rfl (by
        intro j t u ht hu
        match j, ht, hu with
        | 0, ht, hu => cases ht; cases hu; exact dec10
        | 1, ht, hu => cases ht; cases hu; exact dec0
        | 2, ht, hu => cases ht; cases hu; exact dec0
        | 3, ht, hu => cases ht; cases hu; exact dec1
        | j + 4, ht, _ => cases ht)
      exact this)
    (fun W => many8)
  rw [show parsP ⟨false, 0, 167772161⟩ 8 = (⟨⟨false, 0, 0⟩, 0⟩, 30) by decide +kernel] at h
  exact h
theorem print_s0 (htab : T10 w) : Calls Tryz.prog 7 #[pxV (tenP 8)] w fun e w' => e = .returned (.string s0) ∧ Fr N0 w w' := by
  have h := pprint (tenP 8) ⟨⟨by decide, by decide⟩, by decide, by decide⟩ (by decide +kernel) (txt4 167772160) (by decide +kernel) htab (fun W hW => prt4 167772160 (by decide) (htab.fr hW))
  rw [show pxT (txt4 167772160) (tenP 8).bits = s0 by decide +kernel] at h
  exact h
end
end Go.Proofs.YtcameghlkplgfaaGreatDoor
namespace Go.Proofs.YtcameghlkplgfaaGreatDoor
open Go.Proofs Go.Shelf Go.RowKit
def ninX : Px := ⟨⟨false, 0, 167772160⟩, 9⟩
def ninY : Px := ⟨⟨false, 0, 176160768⟩, 9⟩
theorem ten_ok : (tenP 8).ok := ⟨⟨by decide, by decide⟩, by decide, by decide⟩
theorem ninX_ok : ninX.ok := ⟨⟨by decide, by decide⟩, by decide, by decide⟩
theorem ninY_ok : ninY.ok := ⟨⟨by decide, by decide⟩, by decide, by decide⟩
abbrev c10 (m : Int) : Value := .agg #[.bool false, .int .u64 0, .int .u64 167772160, .int .i64 m]
section
variable {w : World}
theorem aw_of : Calls Tryz.prog 9 #[.agg #[.bool false, .int .u64 0, .int .u64 167772161], .int .i64 8] w fun e w' => e = .returned (.tuple #[.agg #[.bool false, .int .u64 0, .int .u64 167772160, .int .i64 8], .int .i64 0]) ∧ Fr N0 w w' := by
  have h := of_ (w := w) ⟨false, 0, 167772161⟩ ⟨by decide, by decide⟩ 8 (by decide) (by decide)
  rw [show ofP ⟨false, 0, 167772161⟩ 8 = (tenP 8, 0) by decide +kernel] at h
  exact h
theorem aw_ten (m : Int) : Calls Tryz.prog 11 #[.int .i64 m] w fun e w' => e = .returned (.agg #[.bool false, .int .u64 0, .int .u64 167772160, .int .i64 m]) ∧ Fr N0 w w' := ten_ m
theorem aw_halves : Calls Tryz.prog 10 #[.agg #[.bool false, .int .u64 0, .int .u64 167772160, .int .i64 8]] w fun e w' => e = .returned (.tuple #[.agg #[.bool false, .int .u64 0, .int .u64 167772160, .int .i64 9], .agg #[.bool false, .int .u64 0, .int .u64 176160768, .int .i64 9], .int .i64 0]) ∧ Fr N0 w w' := by
  have h := halv_ (w := w) (tenP 8) ten_ok
  rw [show halvesP (tenP 8) = (ninX, ninY, 0) by decide +kernel] at h
  exact h
theorem aw_parse0 (m : Int) (hm : Mx m w) : Calls Tryz.prog 5 #[.string ⟨#[49, 48, 46, 48, 46, 48, 46, 48, 47, 56]⟩] w fun e w' => e = .returned (.tuple #[.agg #[.bool false, .int .u64 0, .int .u64 167772160, .int .i64 8], .int .i64 0]) ∧ Fr N0 w w' := parse_s0 m hm
theorem aw_parse1 (m : Int) (hm : Mx m w) : Calls Tryz.prog 5 #[.string ⟨#[49, 48, 46, 48, 46, 48, 46, 49, 47, 56]⟩] w fun e w' => e = .returned (.tuple #[.agg #[.bool false, .int .u64 0, .int .u64 0, .int .i64 0], .int .i64 30]) ∧ Fr N0 w w' := parse_s1 m hm
theorem aw_print (htab : T10 w) : Calls Tryz.prog 7 #[.agg #[.bool false, .int .u64 0, .int .u64 167772160, .int .i64 8]] w fun e w' => e = .returned (.string ⟨#[49, 48, 46, 48, 46, 48, 46, 48, 47, 56]⟩) ∧ Fr N0 w w' := print_s0 htab
theorem aw_valid : Calls Tryz.prog 12 #[.agg #[.bool false, .int .u64 0, .int .u64 167772160, .int .i64 8]] w fun e w' => e = .returned (.bool true) ∧ Fr N0 w w' := by
  have h := val_ (w := w) (tenP 8) ten_ok
  rw [show validP (tenP 8) = true by decide +kernel] at h
  exact h
theorem aw_holds : Calls Tryz.prog 13 #[.agg #[.bool false, .int .u64 0, .int .u64 167772160, .int .i64 8], .agg #[.bool false, .int .u64 0, .int .u64 167772161]] w fun e w' => e = .returned (.bool true) ∧ Fr N0 w w' := by
  have h := hol_ (w := w) (tenP 8) ⟨false, 0, 167772161⟩ ten_ok ⟨by decide, by decide⟩
  rw [show holdsP (tenP 8) ⟨false, 0, 167772161⟩ = true by decide +kernel] at h
  exact h
theorem aw_covers : Calls Tryz.prog 14 #[.agg #[.bool false, .int .u64 0, .int .u64 167772160, .int .i64 8], .agg #[.bool false, .int .u64 0, .int .u64 167772160, .int .i64 9]] w fun e w' => e = .returned (.bool true) ∧ Fr N0 w w' := by
  have h := cov_ (w := w) (tenP 8) ninX ten_ok ninX_ok
  rw [show coversP (tenP 8) ninX = true by decide +kernel] at h
  exact h
theorem aw_bit : Calls Tryz.prog 15 #[.agg #[.bool false, .int .u64 0, .int .u64 1], .int .i64 31] w fun e w' => e = .returned (.int .i64 1) ∧ Fr N0 w w' := by
  have h := bit_ (w := w) ⟨false, 0, 1⟩ ⟨by decide, by decide⟩ 31 (by decide) (by decide)
  rw [show bitA ⟨false, 0, 1⟩ 31 = 1 by decide +kernel] at h
  exact h
theorem aw_common : Calls Tryz.prog 16 #[.agg #[.bool false, .int .u64 0, .int .u64 167772160], .agg #[.bool false, .int .u64 0, .int .u64 176160768]] w fun e w' => e = .returned (.int .i64 8) ∧ Fr N0 w w' := by
  refine (com_ (w := w) ninX.ad ninY.ad ninX_ok.ad ninY_ok.ad).mono ?_
  rintro e w' ⟨r, rfl, hr, hf⟩
  have h8 : CmR ninX.ad ninY.ad 8 := by
    unfold CmR
    rw [if_pos (by decide +kernel)]
    exact ⟨8, rfl, by decide +kernel, by decide +kernel, .inr (by decide +kernel)⟩
  rw [hr.eq h8]
  exact ⟨rfl, hf⟩
theorem aw_less : Calls Tryz.prog 17 #[.agg #[.bool false, .int .u64 0, .int .u64 167772160, .int .i64 8], .agg #[.bool false, .int .u64 0, .int .u64 167772160, .int .i64 9]] w fun e w' => e = .returned (.bool true) ∧ Fr N0 w w' := by
  have h := les_ (w := w) (tenP 8) ninX ten_ok ninX_ok
  rw [show ltP (tenP 8) ninX = true by decide +kernel] at h
  exact h
theorem eql_lit (x y : Px) (b : Bool) (h : decide (x = y) = b) (W : World) : (binOp .eql 26 (.agg #[.bool x.ad.six, .int .u64 (x.ad.hi : Int), .int .u64 (x.ad.lo : Int), .int .i64 x.bits]) (.agg #[.bool y.ad.six, .int .u64 (y.ad.hi : Int), .int .u64 (y.ad.lo : Int), .int .i64 y.bits])).run Tryz.prog W = .ok (.bool b) W := h ▸ eql_px x y W
set_option maxHeartbeats 1600000 in
set_option maxRecDepth 100000 in
theorem awake_any (m : Int) (hm : Mx m w) (htab : T10 w) : Calls Tryz.prog 4 #[] w fun e w' => e = .returned (.bool true) ∧ Fr N0 w w' := by
  go_enter Tryz.func4, Tryz.ntmps4
  go_wp2_with (first
    | (go_at_call 9; refine aw_of.mono ?_; rintro e w2 ⟨rfl, hf2⟩))
  have F1 := Lib.hid (hf2.alloc (.cells #[.bool false, .int .u64 0, .int .u64 167772160, .int .i64 8] 26))
  have B1 := Lib.hid (Blk.new w2 26 #[.bool false, .int .u64 0, .int .u64 167772160, .int .i64 8])
  generalize w2.alloc _ = w3 at *
  generalize w2.heap.size = g1 at *
  refine (aw_ten 8).mono ?_
  rintro e w4 ⟨rfl, hf4⟩
  go_wp2_with fail
  refine aw_halves.mono ?_
  rintro e w5 ⟨rfl, hf5⟩
  go_wp2_with fail
  have F5 := Lib.hid (((F1.out.trans hf4).trans hf5).alloc (.cells #[.bool false, .int .u64 0, .int .u64 167772160, .int .i64 9] 26))
  have F6 := Lib.hid (F5.out.alloc (.cells #[.bool false, .int .u64 0, .int .u64 176160768, .int .i64 9] 26))
  have B1b := Lib.hid ((((B1.out.fr hf4 id).fr hf5 id).alloc (.cells #[.bool false, .int .u64 0, .int .u64 167772160, .int .i64 9] 26)).alloc (.cells #[.bool false, .int .u64 0, .int .u64 176160768, .int .i64 9] 26))
  have B3 := Lib.hid ((Blk.new w5 26 #[.bool false, .int .u64 0, .int .u64 167772160, .int .i64 9]).alloc (.cells #[.bool false, .int .u64 0, .int .u64 176160768, .int .i64 9] 26))
  have B4 := Lib.hid (Blk.alloc2 w5 (.cells #[.bool false, .int .u64 0, .int .u64 167772160, .int .i64 9] 26) 26 #[.bool false, .int .u64 0, .int .u64 176160768, .int .i64 9])
  clear B1 F5 hf4 hf5
  generalize World.alloc (w5.alloc _) _ = w6 at *
  generalize w5.heap.size + 1 = g4 at *
  generalize w5.heap.size = g3 at *
  refine (aw_parse0 m (hm.fr F6.out)).mono ?_
  rintro e w7 ⟨rfl, hf7⟩
  go_wp2_with fail
  have F7 := Lib.hid ((F6.out.trans hf7).alloc (.cells #[.bool false, .int .u64 0, .int .u64 167772160, .int .i64 8] 26))
  have B6 := Lib.hid (Blk.new w7 26 #[.bool false, .int .u64 0, .int .u64 167772160, .int .i64 8])
  have B1c := Lib.hid ((B1b.out.fr hf7 id).alloc (.cells #[.bool false, .int .u64 0, .int .u64 167772160, .int .i64 8] 26))
  have B3c := Lib.hid ((B3.out.fr hf7 id).alloc (.cells #[.bool false, .int .u64 0, .int .u64 167772160, .int .i64 8] 26))
  have B4c := Lib.hid ((B4.out.fr hf7 id).alloc (.cells #[.bool false, .int .u64 0, .int .u64 167772160, .int .i64 8] 26))
  clear B1b B3 B4 hf7
  generalize w7.alloc _ = w8 at *
  generalize w7.heap.size = g6 at *
  refine (aw_parse1 m (hm.fr F7.out)).mono ?_
  rintro e w9 ⟨rfl, hf9⟩
  go_wp2_with fail
  have F9 := Lib.hid ((F7.out.trans hf9).alloc (.cells #[.bool false, .int .u64 0, .int .u64 0, .int .i64 0] 26))
  have B6d := Lib.hid ((B6.out.fr hf9 id).alloc (.cells #[.bool false, .int .u64 0, .int .u64 0, .int .i64 0] 26))
  have B1d := Lib.hid ((B1c.out.fr hf9 id).alloc (.cells #[.bool false, .int .u64 0, .int .u64 0, .int .i64 0] 26))
  have B3d := Lib.hid ((B3c.out.fr hf9 id).alloc (.cells #[.bool false, .int .u64 0, .int .u64 0, .int .i64 0] 26))
  have B4d := Lib.hid ((B4c.out.fr hf9 id).alloc (.cells #[.bool false, .int .u64 0, .int .u64 0, .int .i64 0] 26))
  clear B1c B3c B4c B6 hf9
  generalize w9.alloc _ = w10 at *
  generalize w9.heap.size = g8 at *
  have Z1 := Lib.hid fun (W : World) (hf : Fr N0 w10 W) => (B1d.out.fr hf id).c4
  have Z3 := Lib.hid fun (W : World) (hf : Fr N0 w10 W) => (B3d.out.fr hf id).c4
  have Z4 := Lib.hid fun (W : World) (hf : Fr N0 w10 W) => (B4d.out.fr hf id).c4
  have Z6 := Lib.hid fun (W : World) (hf : Fr N0 w10 W) => (B6d.out.fr hf id).c4
  have HM := Lib.hid hm
  have HT := Lib.hid fun (W : World) (hf : Fr N0 w10 W) => htab.fr (F9.out.trans hf)
  clear B1d B3d B4d B6d hm htab hf2 F1 F6 F7
  have a0 := fun x : Fam w10 => (Z1.out x.w x.fr).1
  have a1 := fun x : Fam w10 => (Z1.out x.w x.fr).2.1
  have a2 := fun x : Fam w10 => (Z1.out x.w x.fr).2.2.1
  have a3 := fun x : Fam w10 => (Z1.out x.w x.fr).2.2.2
  have b0 := fun x : Fam w10 => (Z3.out x.w x.fr).1
  have b1 := fun x : Fam w10 => (Z3.out x.w x.fr).2.1
  have b2 := fun x : Fam w10 => (Z3.out x.w x.fr).2.2.1
  have b3 := fun x : Fam w10 => (Z3.out x.w x.fr).2.2.2
  have d0 := fun x : Fam w10 => (Z4.out x.w x.fr).1
  have d1 := fun x : Fam w10 => (Z4.out x.w x.fr).2.1
  have d2 := fun x : Fam w10 => (Z4.out x.w x.fr).2.2.1
  have d3 := fun x : Fam w10 => (Z4.out x.w x.fr).2.2.2
  have e8 := eql_lit (tenP 8) (tenP 8) true (by decide +kernel)
  have e9 := eql_lit ninX ninX true (by decide +kernel)
  have eY := eql_lit ninY ninY true (by decide +kernel)
  have q8 := fun X Y W => guard_px .eql X Y (tenP 8) (tenP 8) W
  have q9 := fun X Y W => guard_px .eql X Y ninX ninX W
  have qY := fun X Y W => guard_px .eql X Y ninY ninY W
  change ∀ W, (binOp .eql 26 (.agg #[.bool false, .int .u64 0, .int .u64 167772160, .int .i64 8]) (.agg #[.bool false, .int .u64 0, .int .u64 167772160, .int .i64 8])).run Tryz.prog W = .ok (.bool true) W at e8
  change ∀ W, (binOp .eql 26 (.agg #[.bool false, .int .u64 0, .int .u64 167772160, .int .i64 9]) (.agg #[.bool false, .int .u64 0, .int .u64 167772160, .int .i64 9])).run Tryz.prog W = .ok (.bool true) W at e9
  change ∀ W, (binOp .eql 26 (.agg #[.bool false, .int .u64 0, .int .u64 176160768, .int .i64 9]) (.agg #[.bool false, .int .u64 0, .int .u64 176160768, .int .i64 9])).run Tryz.prog W = .ok (.bool true) W at eY
  change ∀ X Y W, (eqGuard .eql 26 X Y (.agg #[.bool false, .int .u64 0, .int .u64 167772160, .int .i64 8]) (.agg #[.bool false, .int .u64 0, .int .u64 167772160, .int .i64 8])).run Tryz.prog W = .ok () W at q8
  change ∀ X Y W, (eqGuard .eql 26 X Y (.agg #[.bool false, .int .u64 0, .int .u64 167772160, .int .i64 9]) (.agg #[.bool false, .int .u64 0, .int .u64 167772160, .int .i64 9])).run Tryz.prog W = .ok () W at q9
  change ∀ X Y W, (eqGuard .eql 26 X Y (.agg #[.bool false, .int .u64 0, .int .u64 176160768, .int .i64 9]) (.agg #[.bool false, .int .u64 0, .int .u64 176160768, .int .i64 9])).run Tryz.prog W = .ok () W at qY
  refine wp_region_fam (by kernel_rfl) (by kernel_rfl) ?_
  repeat (go_big_quiet_step ((go_at_call 11; exact fam_call (aw_ten _))))
  first | refine wpQuiet_nil ?_ | (go_big_quiet_want; go_big_quiet_op; done)
  rintro _ ⟨xq, rfl⟩
  clear a0 a1 a2 a3 b0 b1 b2 b3 d0 d1 d2 d3
  have F := Lib.hid xq.fr
  obtain ⟨a0, a1, a2, a3⟩ := Z1.out _ F.out; obtain ⟨b0, b1, b2, b3⟩ := Z3.out _ F.out; obtain ⟨d0, d1, d2, d3⟩ := Z4.out _ F.out; obtain ⟨k0, k1, k2, k3⟩ := Z6.out _ F.out
  go_wp2_with (first
    | (go_at_call 7; refine (aw_print (HT.out _ F.out)).mono ?_; rintro e wz ⟨rfl, hf⟩; have F := Lib.hid (F.out.trans hf); obtain ⟨a0, a1, a2, a3⟩ := Z1.out _ F.out; obtain ⟨b0, b1, b2, b3⟩ := Z3.out _ F.out; obtain ⟨d0, d1, d2, d3⟩ := Z4.out _ F.out; obtain ⟨k0, k1, k2, k3⟩ := Z6.out _ F.out)
    | (go_at_call 12; refine aw_valid.mono ?_; rintro e wz ⟨rfl, hf⟩; have F := Lib.hid (F.out.trans hf); obtain ⟨a0, a1, a2, a3⟩ := Z1.out _ F.out; obtain ⟨b0, b1, b2, b3⟩ := Z3.out _ F.out; obtain ⟨d0, d1, d2, d3⟩ := Z4.out _ F.out; obtain ⟨k0, k1, k2, k3⟩ := Z6.out _ F.out)
    | (go_at_call 13; refine aw_holds.mono ?_; rintro e wz ⟨rfl, hf⟩; have F := Lib.hid (F.out.trans hf); obtain ⟨a0, a1, a2, a3⟩ := Z1.out _ F.out; obtain ⟨b0, b1, b2, b3⟩ := Z3.out _ F.out; obtain ⟨d0, d1, d2, d3⟩ := Z4.out _ F.out; obtain ⟨k0, k1, k2, k3⟩ := Z6.out _ F.out)
    | (go_at_call 14; refine aw_covers.mono ?_; rintro e wz ⟨rfl, hf⟩; have F := Lib.hid (F.out.trans hf); obtain ⟨a0, a1, a2, a3⟩ := Z1.out _ F.out; obtain ⟨b0, b1, b2, b3⟩ := Z3.out _ F.out; obtain ⟨d0, d1, d2, d3⟩ := Z4.out _ F.out; obtain ⟨k0, k1, k2, k3⟩ := Z6.out _ F.out)
    | (go_at_call 15; refine aw_bit.mono ?_; rintro e wz ⟨rfl, hf⟩; have F := Lib.hid (F.out.trans hf); obtain ⟨a0, a1, a2, a3⟩ := Z1.out _ F.out; obtain ⟨b0, b1, b2, b3⟩ := Z3.out _ F.out; obtain ⟨d0, d1, d2, d3⟩ := Z4.out _ F.out; obtain ⟨k0, k1, k2, k3⟩ := Z6.out _ F.out)
    | (go_at_call 16; refine aw_common.mono ?_; rintro e wz ⟨rfl, hf⟩; have F := Lib.hid (F.out.trans hf); obtain ⟨a0, a1, a2, a3⟩ := Z1.out _ F.out; obtain ⟨b0, b1, b2, b3⟩ := Z3.out _ F.out; obtain ⟨d0, d1, d2, d3⟩ := Z4.out _ F.out; obtain ⟨k0, k1, k2, k3⟩ := Z6.out _ F.out)
    | (go_at_call 17; refine aw_less.mono ?_; rintro e wz ⟨rfl, hf⟩; have F := Lib.hid (F.out.trans hf); obtain ⟨a0, a1, a2, a3⟩ := Z1.out _ F.out; obtain ⟨b0, b1, b2, b3⟩ := Z3.out _ F.out; obtain ⟨d0, d1, d2, d3⟩ := Z4.out _ F.out; obtain ⟨k0, k1, k2, k3⟩ := Z6.out _ F.out))
  go_ret
  exact ⟨rfl, F9.out.trans F.out⟩
end
end Go.Proofs.YtcameghlkplgfaaGreatDoor
namespace Go.Proofs.YtcameghlkplgfaaGreatDoor
open Go.Proofs Go.Shelf Go.RowKit
shelf_lay LaysM.n145 Nm 145 at Tryz as Tryz.cutM
set_option maxRecDepth 100000 in
theorem rd_ad {W : World} {cs : List Value} (h : Rd Tryz.prog W 24 cs) : ∃ a : Ad, cs = [.bool a.six, .int .u64 (a.hi : Int), .int .u64 (a.lo : Int)] ∧ a.ok := by
  obtain ⟨hl, hf⟩ := Rd.struct_ Tryz.underlying24 h
  rw [show Tryz.prog.cellsOf 24 = 3 by kernel_rfl] at hl
  match cs, hl with
  | [x, y, z], _ =>
    have h0 : Rd Tryz.prog W 4 (([x, y, z].drop 0).take (Tryz.prog.cellsOf 4)) := hf 0 _ rfl
    have h1 : Rd Tryz.prog W 22 (([x, y, z].drop 1).take (Tryz.prog.cellsOf 22)) := hf 1 _ rfl
    have h2 : Rd Tryz.prog W 22 (([x, y, z].drop 2).take (Tryz.prog.cellsOf 22)) := hf 2 _ rfl
    rw [show Tryz.prog.cellsOf 4 = 1 by kernel_rfl] at h0
    rw [show Tryz.prog.cellsOf 22 = 1 by kernel_rfl] at h1 h2
    obtain ⟨s, e0⟩ := Rd.bool_ Tryz.underlying4 h0
    obtain ⟨hi, e1, b1⟩ := Rd.u64_ Tryz.underlying22 h1
    obtain ⟨lo, e2, b2⟩ := Rd.u64_ Tryz.underlying22 h2
    simp at e0 e1 e2
    subst e0 e1 e2
    exact ⟨⟨s, hi, lo⟩, rfl, b1, b2⟩
set_option maxRecDepth 100000 in
theorem rd_px {W : World} {cs : List Value} (h : Rd Tryz.prog W 26 cs) : ∃ p : Px, cs = [.bool p.ad.six, .int .u64 (p.ad.hi : Int), .int .u64 (p.ad.lo : Int), .int .i64 p.bits] ∧ p.ok := by
  obtain ⟨hl, hf⟩ := Rd.struct_ Tryz.underlying26 h
  rw [show Tryz.prog.cellsOf 26 = 4 by kernel_rfl] at hl
  match cs, hl with
  | [x, y, z, t], _ =>
    have h0 : Rd Tryz.prog W 24 (([x, y, z, t].drop 0).take (Tryz.prog.cellsOf 24)) := hf 0 _ rfl
    have h1 : Rd Tryz.prog W 3 (([x, y, z, t].drop 3).take (Tryz.prog.cellsOf 3)) := hf 1 _ rfl
    rw [show Tryz.prog.cellsOf 24 = 3 by kernel_rfl] at h0
    rw [show Tryz.prog.cellsOf 3 = 1 by kernel_rfl] at h1
    obtain ⟨a, e0, o0⟩ := rd_ad h0
    obtain ⟨m, e1, b1, b2⟩ := Rd.i64_ Tryz.underlying3 h1
    simp at e0 e1
    obtain ⟨rfl, rfl, rfl⟩ := e0
    subst e1
    exact ⟨⟨a, m⟩, rfl, o0, b1, b2⟩
theorem px_arr {A : Array Value} {p : Px} (h : A.toList = [.bool p.ad.six, .int .u64 (p.ad.hi : Int), .int .u64 (p.ad.lo : Int), .int .i64 p.bits]) : A = #[.bool p.ad.six, .int .u64 (p.ad.hi : Int), .int .u64 (p.ad.lo : Int), .int .i64 p.bits] := by
  rw [← Array.toArray_toList (xs := A), h]
theorem ad_arr {A : Array Value} {a : Ad} (h : A.toList = [.bool a.six, .int .u64 (a.hi : Int), .int .u64 (a.lo : Int)]) : A = #[.bool a.six, .int .u64 (a.hi : Int), .int .u64 (a.lo : Int)] := by
  rw [← Array.toArray_toList (xs := A), h]
theorem mx_of {W : World} (hS : W.ShapedOpen Tryz.prog) : ∃ m, Mx m W := Tryz.cutM.s1_3 W hS
/-- What the table's entry of a list of variables says. -/
theorem t10_of {W : World} {l : List (String × DataW Unit)} (hl : l.filter (fun x => x.1 == "internal/strconv.uint64pow10") = [("internal/strconv.uint64pow10", Lib.tabData .u64 Lib.pow10Tab)]) (h : laidMetH Tryz.prog l W) : T10 W := by
  have h2 := h.filter fun x => x.1 == "internal/strconv.uint64pow10"
  rw [hl, MakeChecks.laidMetH_plain _ _ _ (by rfl)] at h2
  exact Lib.tabIs_of_head (g := 3) (t := 125) (n := 20) (by kernel_rfl) (by kernel_rfl) (by kernel_rfl) Tryz.underlying22 (by kernel_rfl) (by kernel_rfl) h2
end Go.Proofs.YtcameghlkplgfaaGreatDoor
namespace Go.Proofs.YtcameghlkplgfaaGreatDoor
open Go.Proofs Go.Shelf Go.RowKit
def dbTab : List Int := [0, 1, 56, 2, 57, 49, 28, 3, 61, 58, 42, 50, 38, 29, 17, 4, 62, 47, 59, 36, 45, 43, 51, 22, 53, 39, 33, 30, 24, 18, 12, 5, 63, 55, 48, 27, 60, 41, 37, 16, 46, 35, 44, 21, 52, 32, 23, 11, 54, 26, 40, 15, 34, 20, 31, 10, 25, 14, 19, 9, 13, 8, 7, 6]
theorem d4_of {W : World} {l : List (String × DataW Unit)} (hl : l.filter (fun x => x.1 == "math/bits.deBruijn64tab") = [("math/bits.deBruijn64tab", Lib.tabData .u8 dbTab)]) (h : laidMetH Tryz.prog l W) : D4 W := by
  have h2 := h.filter fun x => x.1 == "math/bits.deBruijn64tab"
  rw [hl, MakeChecks.laidMetH_plain _ _ _ (by rfl)] at h2
  have h3 := Lib.tabIs_of_head (g := 5) (t := 139) (n := 64) (by kernel_rfl) (by kernel_rfl) (by kernel_rfl) Tryz.underlying5 (by kernel_rfl) (by kernel_rfl) h2
  exact h3.cell (by kernel_rfl) 15 (by decide)
set_option maxRecDepth 100000 in
theorem sy_of {W : World} {l : List (String × DataW Unit)} {d : DataW Unit} (hl : l.filter (fun x => x.1 == "strconv.ErrSyntax") = [("strconv.ErrSyntax", d)]) (hh : d.handleName? = none) (h : laidMetH Tryz.prog l W) : Sy W := by
  have h2 := h.filter fun x => x.1 == "strconv.ErrSyntax"
  rw [hl, MakeChecks.laidMetH_plain _ _ _ (by simp [hh])] at h2
  obtain ⟨ps, ⟨g, t, cs, fuel, p, q, hg, ht, hvar, hd, _, _⟩, _⟩ := h2
  have hg' : Tryz.prog.globalNamed "strconv.ErrSyntax" = some 1 := by kernel_rfl
  obtain rfl := Option.some.inj (hg'.symm.trans hg)
  have ht' : (Tryz.prog.globals[1]?).map (·.type) = some 60 := by kernel_rfl
  obtain rfl := Option.some.inj (ht'.symm.trans ht)
  have hx : ∃ x, cs.toList = [x] ∧ (x = .nilIface ∨ ∃ u v, x = .iface u v) := by
    cases fuel with
    | zero => simp [DataW.trod] at hd
    | succ n =>
      unfold DataW.trod at hd
      rw [Tryz.underlying60] at hd
      generalize cs.toList = L at *
      cases L with
      | nil => cases hd
      | cons x r =>
        cases r with
        | nil => cases x <;> first | exact ⟨_, rfl, .inl rfl⟩ | exact ⟨_, rfl, .inr ⟨_, _, rfl⟩⟩ | cases hd
        | cons y r => cases x <;> cases hd
  obtain ⟨x, h1, h3⟩ := hx
  have hc := World.var?_cell hg' hvar 0
  have e : cs[0]? = some x := by rw [← Array.getElem?_toList, h1]; rfl
  exact ⟨x, by simpa [e] using hc, h3⟩
theorem f3_of {W : World} {l : List (String × DataW Unit)} {d : DataW Unit} (h1 : l.filter (fun x => x.1 == "internal/strconv.uint64pow10") = [("internal/strconv.uint64pow10", Lib.tabData .u64 Lib.pow10Tab)])
    (h2 : l.filter (fun x => x.1 == "math/bits.deBruijn64tab") = [("math/bits.deBruijn64tab", Lib.tabData .u8 dbTab)]) (h3 : l.filter (fun x => x.1 == "strconv.ErrSyntax") = [("strconv.ErrSyntax", d)]) (hh : d.handleName? = none) (h : laidMetH Tryz.prog l W) : T10 W ∧ D4 W ∧ Sy W :=
  ⟨t10_of h1 h, d4_of h2 h, sy_of h3 hh h⟩
end Go.Proofs.YtcameghlkplgfaaGreatDoor
namespace Go.Proofs.YtcameghlkplgfaaGreatDoor
open Go.Proofs Go.Shelf Go.RowKit
/-- What a text is read as, as a prefix; the error's number. -/
def plP (s : ByteArray) : Px × Int :=
  if (Lib.cut s.data.toList [47]).2.2 = false then (⟨⟨false, 0, 0⟩, 0⟩, 30)
  else if (parseA (bA (Lib.cut s.data.toList [47]).1)).2 ≠ 0 then (⟨⟨false, 0, 0⟩, 0⟩, 20)
  else parsP (parseA (bA (Lib.cut s.data.toList [47]).1)).1 (manyP (Lib.cut s.data.toList [47]).2.1)
def pxS (p : Px) : ByteArray := if validP p = true then pxT (txtA p.ad) p.bits else ⟨#[]⟩
theorem manyP_ok (l : List UInt8) : -1 ≤ manyP l ∧ manyP l ≤ 1000 := by
  unfold manyP
  split
  · omega
  · rename_i h
    cases hd : decG 0 l with
    | none => simp
    | some v =>
      have h1 := decG_lt l 0 v hd
      have h2 : 10 ^ l.length ≤ 10 ^ 3 := Nat.pow_le_pow_right (by omega) (by omega)
      simp only
      omega
theorem validP_ad {p : Px} (h : validP p = true) : validA p.ad = true := by
  unfold validP at h
  simp only [Bool.and_eq_true] at h
  exact h.1.1.1
theorem validP_bits {p : Px} (h : validP p = true) : 0 ≤ p.bits ∧ p.bits ≤ 128 := by
  unfold validP at h
  simp only [Bool.and_eq_true, decide_eq_true_eq] at h
  have : widthA p.ad ≤ 128 := by unfold widthA; split <;> omega
  omega
/-- What is read is a right prefix, or the empty one. -/
theorem plP_ok (s : ByteArray) : ((plP s).2 = 0 ∧ validP (plP s).1 = true ∧ (plP s).1.ok) ∨ ((plP s).1 = ⟨⟨false, 0, 0⟩, 0⟩ ∧ ((plP s).2 = 20 ∨ (plP s).2 = 30)) := by
  unfold plP
  split
  · exact .inr ⟨rfl, .inr rfl⟩
  · split
    · exact .inr ⟨rfl, .inl rfl⟩
    · rename_i h
      unfold parsP
      split
      · rename_i hv
        left
        have hm := manyP_ok (Lib.cut s.data.toList [47]).2.1
        rcases parse_short (bA (Lib.cut s.data.toList [47]).1) with ⟨_, _, ho, _⟩ | e
        · exact ⟨rfl, hv, ho, by simp only; omega, by simp only; omega⟩
        · rw [e] at h
          exact absurd rfl (fun (_ : (20 : Int) = 20) => h (by decide))
      · exact .inr ⟨rfl, .inr rfl⟩
theorem cut_slash : ∀ {a b : List UInt8}, (47 : UInt8) ∉ a → Lib.index (a ++ 47 :: b) [47] = (a.length : Int)
  | [], b, _ => by rw [List.nil_append, ix_hit]; rfl
  | x :: a, b, h => by
    have hx : x ≠ 47 := fun e => h (by rw [e]; exact List.mem_cons_self)
    rw [List.cons_append, ix_miss hx, cut_slash (fun e => h (List.mem_cons_of_mem _ e)), if_neg (by omega), List.length_cons]
    omega
theorem many_itoa : ∀ n : Nat, n < 129 → manyP (Lib.itoa (n : Int)) = (n : Int) := by decide +kernel
theorem hexD_47 : hexD (47 : UInt8).toNat = none := by decide
theorem slash_hx {us : List Nat} (hlt : ∀ u ∈ us, u < 65536) : (47 : UInt8) ∉ Lib.join (us.map hxT) [58] := by
  intro hm
  rcases mem_join _ hm with e | ⟨t, ht, e⟩
  · exact absurd e (by decide)
  · obtain ⟨u, hu, rfl⟩ := List.mem_map.1 ht
    exact hexG_mem hexD_47 _ 0 u (gt_hx (hlt u hu)).val e
theorem dd_slash : ∀ x, x < 256 → (47 : UInt8) ∉ Lib.decDigits x := by decide +kernel
theorem slash_txt (a : Ad) : (47 : UInt8) ∉ (txtA a).data.toList := by
  unfold txtA
  split
  · unfold txt6
    split
    · rw [txG_bA, bA_list]
      exact slash_hx (gsA_lt _)
    · rw [txG_bA, txG_bA, show (⟨#[58, 58]⟩ : ByteArray) = bA [58, 58] from rfl, bA_app, bA_app, bA_list]
      intro hm
      rcases List.mem_append.1 hm with hm | hm
      · rcases List.mem_append.1 hm with hm | hm
        · exact slash_hx (fun u hu => gsA_lt _ u (List.mem_of_mem_take hu)) hm
        · revert hm; decide
      · exact slash_hx (fun u hu => gsA_lt _ u (List.mem_of_mem_drop hu)) hm
  · rw [txt4_bA, bA_list]
    intro hm
    rcases mem_join _ hm with e | ⟨t, ht, e⟩
    · exact absurd e (by decide)
    · obtain ⟨x, hx, rfl⟩ := List.mem_map.1 ht
      rw [bytes_lo] at hx
      obtain ⟨k, _, rfl⟩ := List.mem_map.1 hx
      exact dd_slash _ (byteA_lt _ _) e
theorem pxT_list (a : Ad) (m : Int) : (pxT (txtA a) m).data.toList = (txtA a).data.toList ++ 47 :: Lib.itoa m := by
  unfold pxT
  simp
/-- What a right prefix is told as is read as it. -/
theorem plP_back {p : Px} (ho : p.ok) (hv : validP p = true) : plP (pxT (txtA p.ad) p.bits) = (p, 0) := by
  have hva := validP_ad hv
  obtain ⟨b1, b2⟩ := validP_bits hv
  have hix := cut_slash (b := Lib.itoa p.bits) (slash_txt p.ad)
  have hc : Lib.cut (pxT (txtA p.ad) p.bits).data.toList [47] = ((txtA p.ad).data.toList, Lib.itoa p.bits, true) := by
    rw [pxT_list]
    unfold Lib.cut
    rw [if_pos (by omega), hix, Int.toNat_natCast, List.take_left]
    generalize (txtA p.ad).data.toList = l
    generalize Lib.itoa p.bits = I
    have e : (l ++ 47 :: I).drop (l.length + [(47 : UInt8)].length) = I := by
      rw [show l ++ 47 :: I = (l ++ [47]) ++ I by simp, show l.length + [(47 : UInt8)].length = (l ++ [47]).length by simp, List.drop_left]
    rw [e]
  have hm : manyP (Lib.itoa p.bits) = p.bits := by
    obtain ⟨n, hn⟩ := Int.eq_ofNat_of_zero_le b1
    rw [hn]
    exact many_itoa n (by omega)
  have hb : bA (txtA p.ad).data.toList = txtA p.ad := by
    unfold bA
    exact ByteArray.ext (by simp)
  unfold plP
  rw [hc]
  simp only
  rw [if_neg (by decide), hb, parse_txtA ho.ad hva, if_neg (by simp), hm]
  unfold parsP
  have hv' : validP ⟨p.ad, p.bits⟩ = true := hv
  rw [if_pos hv']
section
variable {w : World}
set_option maxHeartbeats 1600000 in
set_option maxRecDepth 100000 in
theorem ppar_no (s x y : ByteArray) (m : Int) (hm : Mx m w) (k : Int) (b : Bool) (hb : (b = false ∧ k = 30) ∨ (b = true ∧ k = 20))
    (h40 : ∀ W : World, Mx m W → Calls Tryz.prog 18 #[.string s, .string ⟨#[47]⟩] W fun e w' => e = .returned (.tuple #[.string x, .string y, .bool b]) ∧ Fr N0 W w')
    (h41 : b = true → ∀ W : World, Mx m W → Fr N0 w W → Calls Tryz.prog 19 #[.string x] W fun e w' => e = .returned (.tuple #[adV ⟨false, 0, 0⟩, .int .i64 20]) ∧ Fr N0 W w') :
    Calls Tryz.prog 5 #[.string s] w fun e w' => e = .returned (.tuple #[pxV ⟨⟨false, 0, 0⟩, 0⟩, .int .i64 k]) ∧ Fr N0 w w' := by
  unfold adV at h41
  have H41 := Lib.hid h41
  clear h41
  go_enter Tryz.func5, Tryz.ntmps5
  go_wp2_with fail
  have HF0 := Lib.hid (Fr.alloc (Fr.refl N0 w) (.cells #[.bool false, .int .u64 0, .int .u64 0, .int .i64 0] 26))
  have HM := Lib.hid (hm.fr HF0.out)
  have HA2 := Lib.hid (Blk.new w 26 #[.bool false, .int .u64 0, .int .u64 0, .int .i64 0])
  generalize w.alloc _ = w1 at *
  obtain ⟨g2, hg2⟩ : ∃ g, g = w.heap.size := ⟨_, rfl⟩
  rw [← hg2] at HA2 ⊢
  have HG2 := Lib.hid (Nat.le_of_eq hg2.symm)
  clear hg2 hm
  refine (h40 _ HM.out).mono ?_
  rintro e w2 ⟨rfl, hf⟩
  have F2 := Lib.hid hf
  clear hf h40
  rcases hb with ⟨rfl, rfl⟩ | ⟨rfl, rfl⟩
  · have B2 := Lib.hid (HA2.out.fr F2.out id)
    go_wp2_with (refine wpList_store_row rfl 26 _ _ rfl g2 _ rfl rfl _ _ B2.out rfl rfl (by simp [Value.oneCell']) ?_)
    refine ret_cell2 rfl rfl (B2.out.row _) Tryz.underlying26 rfl ⟨rfl, Fr.setRow (HF0.out.trans F2.out) (.inr HG2.out) _⟩
  · go_wp2_with fail
    refine (H41.out (by trivial) _ (HM.out.fr F2.out) (HF0.out.trans F2.out)).mono ?_
    rintro e w3 ⟨rfl, hf3⟩
    have F3 := Lib.hid (F2.out.trans hf3)
    have B3 := Lib.hid ((HA2.out.fr F3.out id).alloc (.cells #[.bool false, .int .u64 0, .int .u64 0] 24))
    go_wp2_with (refine wpList_store_row rfl 26 _ _ rfl g2 _ rfl rfl _ _ B3.out rfl rfl (by simp [Value.oneCell']) ?_)
    refine ret_cell2 rfl rfl (B3.out.row _) Tryz.underlying26 rfl ⟨rfl, Fr.setRow ((HF0.out.trans F3.out).alloc _) (.inr HG2.out) _⟩
set_option maxHeartbeats 1600000 in
set_option maxRecDepth 100000 in
theorem pparse' (s x y : ByteArray) (m : Int) (hm : Mx m w) (a : Ad) (k : Int) (hp : (⟨a, k⟩ : Px).ok)
    (h40 : ∀ W : World, Mx m W → Calls Tryz.prog 18 #[.string s, .string ⟨#[47]⟩] W fun e w' => e = .returned (.tuple #[.string x, .string y, .bool true]) ∧ Fr N0 W w')
    (h41 : ∀ W : World, Mx m W → Fr N0 w W → Calls Tryz.prog 19 #[.string x] W fun e w' => e = .returned (.tuple #[adV a, .int .i64 0]) ∧ Fr N0 W w')
    (h42 : ∀ W : World, Fr N0 w W → Calls Tryz.prog 20 #[.string y] W fun e w' => e = .returned (.int .i64 k) ∧ Fr N0 W w') :
    Calls Tryz.prog 5 #[.string s] w fun e w' => e = .returned (.tuple #[pxV (parsP a k).1, .int .i64 (parsP a k).2]) ∧ Fr N0 w w' := by
  obtain ⟨s1, h1, l1⟩ := a
  unfold adV at h41
  have c14 : ∀ (w : World) {b : Bool}, validP ⟨⟨s1, h1, l1⟩, k⟩ = b → Calls Tryz.prog 12 #[.agg #[.bool s1, .int .u64 (h1 : Int), .int .u64 (l1 : Int), .int .i64 k]] w fun e w' => e = .returned (.bool b) ∧ Fr N0 w w' := fun w b hb => hb ▸ val_ (w := w) ⟨⟨s1, h1, l1⟩, k⟩ hp
  go_enter Tryz.func5, Tryz.ntmps5
  go_wp2_with fail
  have HF0 := Lib.hid (Fr.alloc (Fr.refl N0 w) (.cells #[.bool false, .int .u64 0, .int .u64 0, .int .i64 0] 26))
  have HM := Lib.hid (hm.fr HF0.out)
  have HA2 := Lib.hid (Blk.new w 26 #[.bool false, .int .u64 0, .int .u64 0, .int .i64 0])
  generalize w.alloc _ = w1 at *
  obtain ⟨g2, hg2⟩ : ∃ g, g = w.heap.size := ⟨_, rfl⟩
  rw [← hg2] at HA2 ⊢
  have HG2 := Lib.hid (Nat.le_of_eq hg2.symm)
  clear hg2 hm
  go_wp2_with (first
    | (go_at_call 18; refine (h40 _ HM.out).mono ?_; rintro e w2 ⟨rfl, hf⟩; have F2 := Lib.hid hf)
    | (go_at_call 19; refine (h41 _ (HM.out.fr F2.out) (HF0.out.trans F2.out)).mono ?_; rintro e w3 ⟨rfl, hf3⟩; have F3 := Lib.hid (F2.out.trans hf3)))
  have HB := Lib.hid (Blk.new w3 24 #[.bool s1, .int .u64 (h1 : Int), .int .u64 (l1 : Int)])
  have HF4 := Lib.hid (HF0.out.trans (F3.out.alloc (.cells #[.bool s1, .int .u64 (h1 : Int), .int .u64 (l1 : Int)] 24)))
  have HA4 := Lib.hid ((HA2.out.fr F3.out id).alloc (.cells #[.bool s1, .int .u64 (h1 : Int), .int .u64 (l1 : Int)] 24))
  generalize w3.alloc _ = w4 at *
  generalize w3.heap.size = g7 at *
  obtain ⟨z0, z1, z2⟩ := HB.out.c3
  have HZ := Lib.hid fun (W : World) (hf : Fr N0 w4 W) => (HB.out.fr hf id).c3
  have hlt7 : g7 < w4.heap.size := HB.out.lt
  go_region_with ((go_at_call 20; first
    | ((with_reducible refine (h42 (World.drew (World.alloc _ _)) ((HF4.out.alloc _).drew)).mono ?_); rintro e w5 ⟨rfl, hf5⟩; have F5 := Lib.hid (((Fr.refl N0 w4).alloc _).drew.trans hf5); have B5 : Blk w5 w4.heap.size 26 #[.bool false, .int .u64 0, .int .u64 0, .int .i64 0] := (Blk.new _ _ _).drew.fr hf5 id; obtain ⟨p0, p1, p2, p3⟩ := B5.c4; have q0 := B5.frozen 0; have q1 := B5.frozen 1; have q2 := B5.frozen 2; have q3 := B5.frozen 3; obtain ⟨z0, z1, z2⟩ := HZ.out _ F5.out; have hlt5 : g7 < w5.heap.size := (HB.out.fr F5.out id).lt)
    | (refine (h42 _ HF4.out.drew).mono ?_; rintro e w5 ⟨rfl, hf5⟩; have F5 := Lib.hid ((Fr.refl N0 w4).drew.trans hf5); obtain ⟨z0, z1, z2⟩ := HZ.out _ F5.out; have hlt5 : g7 < w5.heap.size := (HB.out.fr F5.out id).lt)))
  all_goals go_wp2_with fail
  all_goals first
    | (have HB9 := Lib.hid (B5.set4 (.bool s1) (.int .u64 (h1 : Int)) (.int .u64 (l1 : Int)) (.int .i64 k)); have HF9 := Lib.hid ((((F5.out.setCell (p := ⟨w4.heap.size, 0, none⟩) (.inr (Nat.le_refl _)) (.bool s1)).setCell (p := ⟨w4.heap.size, 1, none⟩) (.inr (Nat.le_refl _)) (.int .u64 (h1 : Int))).setCell (p := ⟨w4.heap.size, 2, none⟩) (.inr (Nat.le_refl _)) (.int .u64 (l1 : Int))).setCell (p := ⟨w4.heap.size, 3, none⟩) (.inr (Nat.le_refl _)) (.int .i64 k)); generalize World.setCell (World.setCell (World.setCell (w5.setCell _ _) _ _) _ _) _ _ = w6 at *; generalize w4.heap.size = g9 at *)
    | (have HB9 := Lib.hid (Blk.new w5 26 #[.bool s1, .int .u64 (h1 : Int), .int .u64 (l1 : Int), .int .i64 k]); have HF9 := Lib.hid (F5.out.alloc (.cells #[.bool s1, .int .u64 (h1 : Int), .int .u64 (l1 : Int), .int .i64 k] 26)); generalize w5.alloc _ = w6 at *; generalize w5.heap.size = g9 at *)
  all_goals
    have HZ9 := Lib.hid fun (W : World) (hf : Fr N0 w6 W) => (HB9.out.fr hf id).c4
    have HZ2 := Lib.hid fun (W : World) (hf : Fr N0 w6 W) => ((HA4.out.fr HF9.out id).fr hf id)
    clear hf5 F5 z0 z1 z2 hlt5 hlt7
    cases hv : validP ⟨⟨s1, h1, l1⟩, k⟩ with
    | true =>
      have k14 := fun w => c14 w hv
      have HV := Lib.hid hv
      clear c14 hv
      go_wp2_with (first
        | (go_at_call 12; refine (k14 _).mono ?_; rintro e w7 ⟨rfl, hf⟩; have F7 := Lib.hid hf; obtain ⟨z0, z1, z2, z3⟩ := HZ9.out _ F7.out)
        | (refine wpList_store_row rfl 26 _ _ rfl g2 _ rfl rfl _ _ (HZ2.out _ F7.out) rfl rfl (by simp [Value.oneCell']) ?_))
      refine ret_cell2 rfl rfl ((HZ2.out _ F7.out).row _) Tryz.underlying26 rfl ⟨?_, Fr.setRow (HF4.out.trans (HF9.out.trans F7.out)) (.inr HG2.out) _⟩
      unfold parsP
      rw [HV.out]
      rfl
    | false =>
      have k14 := fun w => c14 w hv
      have HV := Lib.hid hv
      clear c14 hv
      go_wp2_with (first
        | (go_at_call 12; refine (k14 _).mono ?_; rintro e w7 ⟨rfl, hf⟩; have F7 := Lib.hid hf; obtain ⟨z0, z1, z2, z3⟩ := HZ9.out _ F7.out)
        | (refine wpList_store_row rfl 26 _ _ rfl g2 _ rfl rfl _ _ (HZ2.out _ F7.out) rfl rfl (by simp [Value.oneCell']) ?_))
      refine ret_cell2 rfl rfl ((HZ2.out _ F7.out).row _) Tryz.underlying26 rfl ⟨?_, Fr.setRow (HF4.out.trans (HF9.out.trans F7.out)) (.inr HG2.out) _⟩
      unfold parsP
      rw [HV.out]
      rfl
theorem cut47 (s : ByteArray) (m : Int) (hs : s.size < 4294967281) (hm : Mx m w) : Calls Tryz.prog 18 #[.string s, .string ⟨#[47]⟩] w fun e w' => e = .returned (.tuple #[.string (bA (Lib.cut s.data.toList [47]).1), .string (bA (Lib.cut s.data.toList [47]).2.1), .bool (Lib.cut s.data.toList [47]).2.2]) ∧ Fr N0 w w' := by
  have e : (⟨#[47]⟩ : ByteArray).data.toList = [47] := rfl
  have h := fun x y b => cut_any s ⟨#[47]⟩ m w hm hs x y b
  rw [e] at h
  exact h _ _ _ rfl rfl rfl
theorem ppar_any (s : ByteArray) (m : Int) (hs : s.size < 4294967281) (hm : Mx m w) (hsy : Sy w) : Calls Tryz.prog 5 #[.string s] w fun e w' => e = .returned (.tuple #[pxV (plP s).1, .int .i64 (plP s).2]) ∧ Fr N0 w w' := by
  have hcs := (cut_sizes s.data.toList [47]).1
  have hcut := fun (W : World) (hW : Mx m W) => cut47 (w := W) s m hs hW
  have hlen : s.data.toList.length = s.size := Lib.size_eq s
  unfold plP
  generalize Lib.cut s.data.toList [47] = c at *
  obtain ⟨x, y, b⟩ := c
  simp only at hcs hcut ⊢
  have hbx : (bA x).size < 4294967281 := by rw [bA_size]; omega
  cases b with
  | false =>
    rw [if_pos rfl]
    exact ppar_no s (bA x) (bA y) m hm 30 false (.inl ⟨rfl, rfl⟩) hcut nofun
  | true =>
    rw [if_neg (by decide)]
    have hpa := fun (W : World) (hW : Mx m W) (hF : Fr N0 w W) => parse_any (w := W) (bA x) m hbx hW (hsy.fr hF)
    rcases parse_short (bA x) with ⟨h1, h2, h3, _⟩ | h
    · rw [if_neg (by rw [h1]; simp)]
      rw [h1] at hpa
      have hmo := manyP_ok y
      refine pparse' s (bA x) (bA y) m hm (parseA (bA x)).1 (manyP y) ⟨h3, by simp only; omega, by simp only; omega⟩ hcut hpa fun W hF => ?_
      have := many_ (w := W) (bA y) (hsy.fr hF)
      rw [bA_list] at this
      exact this
    · rw [h] at hpa ⊢
      rw [if_pos (by decide)]
      exact ppar_no s (bA x) (bA y) m hm 20 true (.inr ⟨rfl, rfl⟩) hcut fun _ => hpa
set_option maxHeartbeats 1600000 in
set_option maxRecDepth 100000 in
theorem pprt_no (p : Px) (ho : p.ok) (hv : validP p = false) : Calls Tryz.prog 7 #[pxV p] w fun e w' => e = .returned (.string ⟨#[]⟩) ∧ Fr N0 w w' := by
  obtain ⟨⟨s, h, l⟩, m⟩ := p
  have k14 : ∀ (w : World), Calls Tryz.prog 12 #[.agg #[.bool s, .int .u64 (h : Int), .int .u64 (l : Int), .int .i64 m]] w fun e w' => e = .returned (.bool false) ∧ Fr N0 w w' := fun w => hv ▸ val_ (w := w) ⟨⟨s, h, l⟩, m⟩ ho
  clear hv ho
  go_enter Tryz.func7, Tryz.ntmps7
  unfold pxV
  go_wp2_with fail
  have HA1 := Lib.hid (Blk.new w 26 #[Value.bool s, Value.int .u64 (h : Int), Value.int .u64 (l : Int), Value.int .i64 m])
  have HF1 := Lib.hid (Fr.alloc (Fr.refl N0 w) (.cells #[Value.bool s, Value.int .u64 (h : Int), Value.int .u64 (l : Int), Value.int .i64 m] 26))
  generalize w.alloc _ = w1 at *
  obtain ⟨g1, hg1⟩ : ∃ g1, g1 = w.heap.size := ⟨_, rfl⟩
  rw [← hg1] at HA1 ⊢
  have HG1 : Hid (w.heap.size ≤ g1) := Lib.hid (by omega)
  clear hg1
  have HZ1 : Hid (∀ W, Fr N0 w1 W → Blk W g1 26 #[Value.bool s, Value.int .u64 (h : Int), Value.int .u64 (l : Int), Value.int .i64 m]) := Lib.hid fun W hf => HA1.out.fr hf id
  have F := Lib.hid (Fr.refl N0 w1)
  obtain ⟨z1_0, z1_1, z1_2, z1_3⟩ := (HZ1.out _ F.out).c4
  go_wp2_with (first
    | (go_at_call 12; refine (k14 _).mono ?_; rintro e w2 ⟨rfl, hf⟩; have F := Lib.hid (F.out.trans hf); obtain ⟨z1_0, z1_1, z1_2, z1_3⟩ := (HZ1.out _ F.out).c4))
  go_ret
  exact ⟨rfl, HF1.out.trans F.out⟩
theorem txtA_size' (a : Ad) : (txtA a).size ≤ 100 := by
  unfold txtA
  split
  · rw [← pT_all (gsA_len a), bA_size]
    exact pT_len (gsA_len a) 8
  · have hb : ∀ x ∈ bytesA ⟨false, 0, a.lo⟩, x < 256 := by
      intro x hx
      rw [bytes_lo] at hx
      obtain ⟨k, _, rfl⟩ := List.mem_map.1 hx
      exact byteA_lt _ _
    have h := p4_len hb 4
    have e : txt4 a.lo = bA (p4 (bytesA ⟨false, 0, a.lo⟩) 4) := by
      rw [txt4_bA]
      unfold p4
      rw [List.take_of_length_le (by rw [bytesA_len]; simp)]
    rw [e, bA_size]
    omega
theorem pprt_ (p : Px) (ho : p.ok) (ht : T10 w) (hd : D4 w) : Calls Tryz.prog 7 #[pxV p] w fun e w' => e = .returned (.string (pxS p)) ∧ Fr N0 w w' := by
  unfold pxS
  cases hv : validP p with
  | false => exact pprt_no p ho hv
  | true =>
    rw [if_pos rfl]
    refine pprint p ho hv (txtA p.ad) (by have := txtA_size' p.ad; omega) ht fun W hF => ?_
    have := prt_ (w := W) p.ad (ht.fr hF) (hd.fr hF)
    unfold prtA at this
    rw [if_pos (validP_ad hv)] at this
    exact this
end
end Go.Proofs.YtcameghlkplgfaaGreatDoor
