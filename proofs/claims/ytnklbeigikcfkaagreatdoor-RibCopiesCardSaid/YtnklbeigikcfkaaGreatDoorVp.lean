/- prefix.Valid. -/
import Derived.Test.YtnklbeigikcfkaaGreatDoorCu
import Derived.Test.YtnklbeigikcfkaaGreatDoorQr
namespace Go.Proofs.YtnklbeigikcfkaaGreatDoor
open Go.RowKit
def pxV (p : Px) : Value := .agg #[.bool p.ad.six, .int .u64 (p.ad.hi : Int), .int .u64 (p.ad.lo : Int), .int .i64 p.bits]
structure Px.ok (p : Px) : Prop where
  ad : p.ad.ok
  lo : -9223372036854775808 ≤ p.bits
  hi : p.bits ≤ 9223372036854775807
/-- The cells of a block with an address. -/
def AdX (w : World) (g : Nat) (s : Bool) (h l : Nat) : Prop :=
  w.cell? ⟨g, 0, none⟩ = some (.bool s) ∧ w.cell? ⟨g, 1, none⟩ = some (.int .u64 (h : Int)) ∧ w.cell? ⟨g, 2, none⟩ = some (.int .u64 (l : Int))
/-- The cells of a block with a prefix. -/
def PxX (w : World) (g : Nat) (s : Bool) (h l : Nat) (m : Int) : Prop :=
  w.cell? ⟨g, 0, none⟩ = some (.bool s) ∧ w.cell? ⟨g, 1, none⟩ = some (.int .u64 (h : Int)) ∧ w.cell? ⟨g, 2, none⟩ = some (.int .u64 (l : Int)) ∧ w.cell? ⟨g, 3, none⟩ = some (.int .i64 m)
theorem PxX.fr {w W : World} {g : Nat} {s : Bool} {h l : Nat} {m : Int} {S : Nat → Prop} (k : PxX w g s h l m) (hf : Fr S w W) (hg : g < w.heap.size) (hS : ¬ S g) : PxX W g s h l m :=
  ⟨(hf.cell (p := ⟨g, 0, none⟩) hg hS).trans k.1, (hf.cell (p := ⟨g, 1, none⟩) hg hS).trans k.2.1, (hf.cell (p := ⟨g, 2, none⟩) hg hS).trans k.2.2.1, (hf.cell (p := ⟨g, 3, none⟩) hg hS).trans k.2.2.2⟩
theorem AdX.fr {w W : World} {g : Nat} {s : Bool} {h l : Nat} {S : Nat → Prop} (k : AdX w g s h l) (hf : Fr S w W) (hg : g < w.heap.size) (hS : ¬ S g) : AdX W g s h l :=
  ⟨(hf.cell (p := ⟨g, 0, none⟩) hg hS).trans k.1, (hf.cell (p := ⟨g, 1, none⟩) hg hS).trans k.2.1, (hf.cell (p := ⟨g, 2, none⟩) hg hS).trans k.2.2⟩
theorem PxX.new (w : World) (t : TypeId) (s : Bool) (h l : Nat) (m : Int) : PxX (w.alloc (.cells #[.bool s, .int .u64 (h : Int), .int .u64 (l : Int), .int .i64 m] t)) w.heap.size s h l m :=
  ⟨(Blk.new _ _ _).cell 0, (Blk.new _ _ _).cell 1, (Blk.new _ _ _).cell 2, (Blk.new _ _ _).cell 3⟩
theorem AdX.new (w : World) (t : TypeId) (s : Bool) (h l : Nat) : AdX (w.alloc (.cells #[.bool s, .int .u64 (h : Int), .int .u64 (l : Int)] t)) w.heap.size s h l :=
  ⟨(Blk.new _ _ _).cell 0, (Blk.new _ _ _).cell 1, (Blk.new _ _ _).cell 2⟩
theorem size_new (w : World) (o : Obj) : w.heap.size < (w.alloc o).heap.size := by simp
section
variable {w : World}
set_option maxHeartbeats 1600000 in
set_option maxRecDepth 100000 in
theorem val_ (p : Px) (ho : p.ok) : Calls Tryz.prog 58 #[pxV p] w fun e w' => e = .returned (.bool (validP p)) ∧ Fr N0 w w' := by
  obtain ⟨⟨s, h, l⟩, m⟩ := p
  obtain ⟨⟨ho1, ho2⟩, ho3, ho4⟩ := ho
  simp only at ho1 ho2 ho3 ho4
  have c29 : ∀ (w : World) {b : Bool}, validA ⟨s, h, l⟩ = b → Calls Tryz.prog 65 #[.agg #[.bool s, .int .u64 (h : Int), .int .u64 (l : Int)]] w fun e w' => e = .returned (.bool b) ∧ Fr N0 w w' := fun w b hb => hb ▸ aval (w := w) ⟨s, h, l⟩
  have c30 : ∀ w : World, Calls Tryz.prog 66 #[.agg #[.bool s, .int .u64 (h : Int), .int .u64 (l : Int)]] w fun e w' => e = .returned (.int .i64 (widthA ⟨s, h, l⟩)) ∧ Fr N0 w w' := fun w => wid (w := w) ⟨s, h, l⟩
  have E : ∀ W, Sem.run Tryz.prog (binOp .eql 30 (adV (cutA ⟨s, h, l⟩ m)) (.agg #[.bool s, .int .u64 (h : Int), .int .u64 (l : Int)])) W = .ok (.bool (decide (cutA ⟨s, h, l⟩ m = ⟨s, h, l⟩))) W := fun W => eql_ad (cutA ⟨s, h, l⟩ m) ⟨s, h, l⟩ W
  have EG : ∀ X Y W, Sem.run Tryz.prog (eqGuard .eql 30 X Y (adV (cutA ⟨s, h, l⟩ m)) (.agg #[.bool s, .int .u64 (h : Int), .int .u64 (l : Int)])) W = .ok () W := fun X Y W => guard_ad .eql X Y (cutA ⟨s, h, l⟩ m) ⟨s, h, l⟩ W
  have c31 : ∀ w : World, 0 ≤ m → m ≤ 128 → Calls Tryz.prog 67 #[.agg #[.bool s, .int .u64 (h : Int), .int .u64 (l : Int)], .int .i64 m] w fun e w' => e = .returned (adV (cutA ⟨s, h, l⟩ m)) ∧ Fr N0 w w' := fun w h1 h2 => cut_ (w := w) ⟨s, h, l⟩ ⟨ho1, ho2⟩ m h1 h2
  have hw := Lib.hid (show widthA ⟨s, h, l⟩ ≤ 128 by unfold widthA; split <;> omega)
  have key : ∀ b, (validA ⟨s, h, l⟩ = b ∧ (b = false ∨ (b = true ∧ m < 0 ∧ decide (0 ≤ m) = false) ∨ (b = true ∧ 0 ≤ m ∧ decide (m ≤ (widthA ⟨s, h, l⟩ : Int)) = false) ∨ (b = true ∧ 0 ≤ m ∧ m ≤ (widthA ⟨s, h, l⟩ : Int) ∧ decide (m ≤ (widthA ⟨s, h, l⟩ : Int)) = true))) →
      Calls Tryz.prog 58 #[pxV ⟨⟨s, h, l⟩, m⟩] w fun e w' => e = .returned (.bool (validP ⟨⟨s, h, l⟩, m⟩)) ∧ Fr N0 w w' := by
    rintro b ⟨e1, hc⟩
    have k29 := fun w => c29 w e1
    have e1' := Lib.hid e1
    clear c29 e1
    go_enter Tryz.func58, Tryz.ntmps58
    unfold pxV
    go_wp2_with fail
    have HX := PxX.new w 32 s h l m
    have HB := Lib.hid (size_new w (.cells #[.bool s, .int .u64 (h : Int), .int .u64 (l : Int), .int .i64 m] 32))
    have HF1 := Lib.hid (Fr.alloc (Fr.refl N0 w) (.cells #[.bool s, .int .u64 (h : Int), .int .u64 (l : Int), .int .i64 m] 32))
    generalize w.alloc _ = w1 at *
    have HXW := Lib.hid (fun W (hf : Fr N0 w1 W) => HX.fr hf HB.out id)
    have z0 := fun x : Fam w1 => (HXW.out x.w x.fr).1
    have z1 := fun x : Fam w1 => (HXW.out x.w x.fr).2.1
    have z2 := fun x : Fam w1 => (HXW.out x.w x.fr).2.2.1
    have z3 := fun x : Fam w1 => (HXW.out x.w x.fr).2.2.2
    clear HX
    generalize w.heap.size = g at *
    rcases hc with rfl | ⟨rfl, hm, hd⟩ | ⟨rfl, hm, hd⟩ | ⟨rfl, hm, hm2, hd⟩
    all_goals
      refine wp_region_fam (by kernel_rfl) (by kernel_rfl) ?_
      repeat (go_big_quiet_step ((first
        | (go_at_call 65; exact fam_call (k29 _))
        | (go_at_call 66; exact fam_call (c30 _))
        | (go_at_call 67; exact fam_call (c31 _ hm (by have := hw.out; omega))))))
      first | refine wpQuiet_nil ?_ | (go_big_quiet_want; go_big_quiet_op; done)
      rintro _ ⟨xq, rfl⟩
      go_wp2_with fail
      go_ret
      refine ⟨retb ?_, HF1.out.trans xq.fr⟩
      have e1 := e1'.out
      unfold validP
      simp [e1]
      try first | omega | (intro h1 h2; exact absurd h2 (of_decide_eq_false hd))
  exact key _ ⟨rfl, by
    by_cases h0 : validA ⟨s, h, l⟩ = true
    · by_cases h1 : m < 0
      · exact .inr (.inl ⟨h0, h1, by simpa using h1⟩)
      · by_cases h2 : m ≤ (widthA ⟨s, h, l⟩ : Int)
        · exact .inr (.inr (.inr ⟨h0, by omega, h2, by simpa using h2⟩))
        · exact .inr (.inr (.inl ⟨h0, by omega, by simpa using h2⟩))
    · exact .inl (by simpa using h0)⟩
end
end Go.Proofs.YtnklbeigikcfkaaGreatDoor
