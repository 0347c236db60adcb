/- addr.Parse of four plain numbers. -/
import Derived.Test.YtndjijadalkidaaDoorFo
namespace Go.Proofs.YtndjijadalkidaaDoor
open Go.Proofs Go.Shelf Go.RowKit
section
variable {w : World}
set_option maxHeartbeats 1600000 in
set_option maxRecDepth 100000 in
theorem parse4 (s : ByteArray) (m : Int) (hm : w.cell? ⟨0, 0, none⟩ = some (.int .i64 m)) (hs : s.size < 4294967281) (ts : List ByteArray) (us : List Nat) (hts : Lib.splitB ⟨#[46]⟩ 0 (Lib.countB s ⟨#[46]⟩) s = ts) (hn : ts.length = 4) (hu : us.length = 4)
    (hd : ∀ (j : Nat) t u, ts[j]? = some t → us[j]? = some u → Dec t u) : Calls Tryd.prog 41 #[.string s] w fun e w' => e = .returned (.tuple #[adV ⟨false, 0, acc us⟩, .int .i64 0]) ∧ Fr N0 w w' := by
  have k56 := fun (W : World) (hW : W.cell? ⟨0, 0, none⟩ = some (.int .i64 m)) => four_ok (w := W) s m hW hs ts us hts hn hu hd
  clear hts hn hu hd
  obtain ⟨a, ha⟩ : ∃ a, a = acc us := ⟨_, rfl⟩
  rw [← ha] at k56 ⊢
  clear ha
  go_enter Tryd.func41, Tryd.ntmps41
  go_wp2_with fail
  have HF0 := Lib.hid (Fr.alloc (Fr.refl N0 w) (.cells #[.bool false, .int .u64 0, .int .u64 0] 24))
  have hlt0 := World.block_lt_of_cell? _ _ hm
  have HM := Lib.hid ((HF0.out.cell hlt0 id).trans hm)
  have HA2 := Lib.hid (Blk.new w 24 #[.bool false, .int .u64 0, .int .u64 0])
  generalize w.alloc _ = w1 at *
  obtain ⟨g2, hg2⟩ : ∃ g, g = w.heap.size := ⟨_, rfl⟩
  rw [← hg2] at HA2 ⊢
  have HG2 := Lib.hid (Nat.le_of_eq hg2.symm)
  clear hg2 hm hlt0
  unfold adV at k56
  go_wp2_with (first
    | (go_at_call 56; refine (k56 _ HM.out).mono ?_; rintro e w2 ⟨rfl, hf⟩; have B2 := Lib.hid (HA2.out.fr hf id); have F2 := Lib.hid hf)
    | (refine wpList_store_row rfl 24 _ _ rfl g2 _ rfl rfl _ _ (B2.out.alloc _) rfl rfl (by simp [Value.oneCell']) ?_))
  refine ret_cell2 rfl rfl ((B2.out.alloc _).row _) Tryd.underlying24 rfl ⟨rfl, Fr.setRow ((HF0.out.trans F2.out).alloc _) (.inr HG2.out) _⟩
/-- strings.Cut at a place of memory where the library's own variable stands. -/
theorem cut_any (s sep : ByteArray) (m : Int) (W : World) (hW : W.cell? ⟨0, 0, none⟩ = some (.int .i64 m)) (hs : s.size < 4294967281) (x y : ByteArray) (b : Bool) (h1 : (⟨(Lib.cut s.data.toList sep.data.toList).1.toArray⟩ : ByteArray) = x) (h2 : (⟨(Lib.cut s.data.toList sep.data.toList).2.1.toArray⟩ : ByteArray) = y) (h3 : (Lib.cut s.data.toList sep.data.toList).2.2 = b) :
    Calls Tryd.prog 40 #[.string s, .string sep] W fun e w' => e = .returned (.tuple #[.string x, .string y, .bool b]) ∧ Fr N0 W w' := by
  refine (Any.strings_Cut Tryd.cutL s sep m W hs hW).mono ?_
  rintro e w' ⟨rfl, n, rfl⟩
  rw [h1, h2, h3]
  exact ⟨rfl, (Fr.refl _ _).drewN _⟩
end
end Go.Proofs.YtndjijadalkidaaDoor
