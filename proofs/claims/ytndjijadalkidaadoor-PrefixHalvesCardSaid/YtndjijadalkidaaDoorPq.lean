/- prefix.Print, over what the address is told as. -/
import Derived.Test.YtndjijadalkidaaDoorPi
namespace Go.Proofs.YtndjijadalkidaaDoor
open Go.Proofs Go.Shelf Go.RowKit Go.Lib
shelf_lay LaysM.n171 Nm 171 at Tryd as Tryd.itoaM
/-- What a prefix is told as: the address's text, a slash, the bits. -/
def pxT (A : ByteArray) (m : Int) : ByteArray := A ++ ⟨#[47]⟩ ++ ⟨(Lib.itoa m).toArray⟩
section
variable {w : World}
theorem itoa_ (m : Int) (h1 : -9223372036854775808 ≤ m) (h2 : m ≤ 9223372036854775807) (htab : T10 w) : Calls Tryd.prog 39 #[.int .i64 m] w fun e w' => e = .returned (.string ⟨(Lib.itoa m).toArray⟩) ∧ Fr N0 w w' := by
  refine (Any.strconv_Itoa Tryd.itoaM m h1 h2 w htab).mono ?_
  rintro e w' ⟨rfl, k, os, rfl⟩
  exact ⟨rfl, Fr.regrow _ _ _⟩
set_option maxHeartbeats 1600000 in
set_option maxRecDepth 100000 in
theorem pprint (p : Px) (ho : p.ok) (hv : validP p = true) (A : ByteArray) (hA : A.size ≤ 1000) (htab : T10 w) (h38 : ∀ W : World, Fr N0 w W → Calls Tryd.prog 38 #[adV p.ad] W fun e w' => e = .returned (.string A) ∧ Fr N0 W w') :
    Calls Tryd.prog 22 #[pxV p] w fun e w' => e = .returned (.string (pxT A p.bits)) ∧ Fr N0 w w' := by
  obtain ⟨⟨s, h, l⟩, m⟩ := p
  have k14 : ∀ (w : World), Calls Tryd.prog 14 #[.agg #[.bool s, .int .u64 (h : Int), .int .u64 (l : Int), .int .i64 m]] w fun e w' => e = .returned (.bool true) ∧ Fr N0 w w' := fun w => hv ▸ val_ (w := w) ⟨⟨s, h, l⟩, m⟩ ho
  have k39 : ∀ (W : World), Fr N0 w W → Calls Tryd.prog 39 #[.int .i64 m] W fun e w' => e = .returned (.string ⟨(Lib.itoa m).toArray⟩) ∧ Fr N0 W w' := fun W hW => itoa_ (w := W) m ho.lo ho.hi (htab.fr hW)
  have hI : (Lib.itoa m).length ≤ 3 := by
    obtain ⟨_, k2, k3, _⟩ := (validP_iff ho.ad).1 hv
    have hw : widthA (⟨s, h, l⟩ : Ad) ≤ 128 := by unfold widthA; split <;> omega
    simp only at k2 k3
    obtain ⟨u, rfl⟩ : ∃ u : Nat, m = u := ⟨m.toNat, by omega⟩
    rw [Lib.itoa_nonneg]
    exact dd_le3 (by omega)
  unfold pxT
  generalize (Lib.itoa m) = I at *
  unfold adV at h38
  clear hv ho htab
  go_enter Tryd.func22, Tryd.ntmps22
  unfold pxV
  go_wp2_with fail
  have HA1 := Lib.hid (Blk.new w 26 #[Value.bool s, Value.int .u64 (h : Int), Value.int .u64 (l : Int), Value.int .i64 m])
  have HF1 := Lib.hid (Fr.alloc (Fr.refl N0 w) (.cells #[Value.bool s, Value.int .u64 (h : Int), Value.int .u64 (l : Int), Value.int .i64 m] 26))
  generalize w.alloc _ = w1 at *
  obtain ⟨g1, hg1⟩ : ∃ g1, g1 = w.heap.size := ⟨_, rfl⟩
  rw [← hg1] at HA1 ⊢
  have HG1 : Hid (w.heap.size ≤ g1) := Lib.hid (by omega)
  clear hg1
  have HZ1 : Hid (∀ W, Fr N0 w1 W → Blk W g1 26 #[Value.bool s, Value.int .u64 (h : Int), Value.int .u64 (l : Int), Value.int .i64 m]) := Lib.hid fun W hf => HA1.out.fr hf id
  have F := Lib.hid (Fr.refl N0 w1)
  obtain ⟨z1_0, z1_1, z1_2, z1_3⟩ := (HZ1.out _ F.out).c4
  go_wp2_with (first
    | (go_at_call 14; refine (k14 _).mono ?_; rintro e w2 ⟨rfl, hf⟩; have F := Lib.hid (F.out.trans hf); obtain ⟨z1_0, z1_1, z1_2, z1_3⟩ := (HZ1.out _ F.out).c4))
  have HF2 := Lib.hid (HF1.out.trans F.out)
  have z0 := fun x : Fam w2 => (HZ1.out x.w (F.out.trans x.fr)).c4.1
  have z1 := fun x : Fam w2 => (HZ1.out x.w (F.out.trans x.fr)).c4.2.1
  have z2 := fun x : Fam w2 => (HZ1.out x.w (F.out.trans x.fr)).c4.2.2.1
  have z3 := fun x : Fam w2 => (HZ1.out x.w (F.out.trans x.fr)).c4.2.2.2
  clear z1_0 z1_1 z1_2 z1_3
  have q38 := fun x : Fam w2 => h38 x.w (HF2.out.trans x.fr)
  have q39 := fun x : Fam w2 => k39 x.w (HF2.out.trans x.fr)
  clear h38 k39
  refine wp_region_fam (by kernel_rfl) (by kernel_rfl) ?_
  repeat (go_big_quiet_step ((first
    | (go_at_call 38; exact fam_call (q38 _))
    | (go_at_call 39; exact fam_call (q39 _)))))
  first | refine wpQuiet_nil ?_ | (go_big_quiet_want; go_big_quiet_op; done)
  rintro _ ⟨xq, rfl⟩
  go_wp2_with fail
  go_ret
  exact ⟨rfl, HF2.out.trans xq.fr⟩
end
end Go.Proofs.YtndjijadalkidaaDoor
