/- prefix.Of, prefix.Bit. -/
import Derived.Test.YtnklbeigikcfkaaGreatDoorVp
import Derived.Laws.ResultCell
namespace Go.Proofs.YtnklbeigikcfkaaGreatDoor
open Go.RowKit
theorem ret_cell2 {fn : Func} {p u : Tmp} {ty : TypeId} {tmps cs : Array Value} {w : World} {g : Nat} {fs} {R : Ending → World → Prop} (hr : fn.results = #[.cell p ty, .tmp u]) (hp : tmps.getD p undef = .pointer (some ⟨g, 0, none⟩)) (hb : Blk w g ty cs)
    (hu : Tryz.prog.underlying ty = some (.struct fs)) (hi : (Tryz.prog.info? ty).map (·.size) = some cs.size) (hR : R (.returned (.tuple #[.agg cs, tmps.getD u undef])) w) : bodyPost Tryz.prog fn R .ret ⟨tmps, []⟩ w := by
  refine bodyPost_ret_by ?_ rfl hR
  rw [results_cell_tmp hr, hp]
  simp [asAddr, Result.andThen, run_loadVar_row w g ty ty cs (0, 0) _ hb hu rfl hi]
def ofP (a : Ad) (m : Int) : Px × Int := if validA a = true ∧ 0 ≤ m ∧ m ≤ (widthA a : Int) then (⟨cutA a m, m⟩, 0) else (⟨⟨false, 0, 0⟩, 0⟩, 1)
theorem Blk.row {w : World} {g : Nat} {t : TypeId} {old : Array Value} (k : Blk w g t old) (cs : Array Value) : Blk (w.setRow g cs) g t cs := setRow_heap w g old cs t (0, 0) k
theorem Fr.setRow {S : Nat → Prop} {a w : World} (h : Fr S a w) {g : Nat} (hg : S g ∨ a.heap.size ≤ g) (cs : Array Value) : Fr S a (w.setRow g cs) :=
  ⟨h.os, h.tape, h.output, by simpa using h.size, fun i hi hn => (setRow_other w g i cs (by
    rintro rfl
    rcases hg with hp | hp
    · exact hn hp
    · omega)).trans (h.block i hi hn)⟩
theorem Blk.adx {w : World} {g : Nat} {t : TypeId} {s : Bool} {h l : Nat} (k : Blk w g t #[.bool s, .int .u64 (h : Int), .int .u64 (l : Int)]) : AdX w g s h l := ⟨k.cell 0, k.cell 1, k.cell 2⟩
theorem Blk.pxx {w : World} {g : Nat} {t : TypeId} {s : Bool} {h l : Nat} {m : Int} (k : Blk w g t #[.bool s, .int .u64 (h : Int), .int .u64 (l : Int), .int .i64 m]) : PxX w g s h l m := ⟨k.cell 0, k.cell 1, k.cell 2, k.cell 3⟩
section
variable {w : World}
set_option maxHeartbeats 1600000 in
set_option maxRecDepth 100000 in
theorem of_ (a : Ad) (ho : a.ok) (m : Int) (h1 : -9223372036854775808 ≤ m) (h2 : m ≤ 9223372036854775807) : Calls Tryz.prog 48 #[adV a, .int .i64 m] w fun e w' => e = .returned (.tuple #[pxV (ofP a m).1, .int .i64 (ofP a m).2]) ∧ Fr N0 w w' := by
  obtain ⟨s, h, l⟩ := a
  obtain ⟨ho1, ho2⟩ := ho
  simp only at ho1 ho2
  have c29 : ∀ (w : World) {b : Bool}, validA ⟨s, h, l⟩ = b → Calls Tryz.prog 65 #[.agg #[.bool s, .int .u64 (h : Int), .int .u64 (l : Int)]] w fun e w' => e = .returned (.bool b) ∧ Fr N0 w w' := fun w b hb => hb ▸ aval (w := w) ⟨s, h, l⟩
  have c30 : ∀ w : World, Calls Tryz.prog 66 #[.agg #[.bool s, .int .u64 (h : Int), .int .u64 (l : Int)]] w fun e w' => e = .returned (.int .i64 (widthA ⟨s, h, l⟩)) ∧ Fr N0 w w' := fun w => wid (w := w) ⟨s, h, l⟩
  obtain ⟨s2, h3, l2, hcut⟩ : ∃ s2 h2 l2, cutA ⟨s, h, l⟩ m = ⟨s2, h2, l2⟩ := ⟨_, _, _, rfl⟩
  have c31 : ∀ w : World, 0 ≤ m → m ≤ 128 → Calls Tryz.prog 67 #[.agg #[.bool s, .int .u64 (h : Int), .int .u64 (l : Int)], .int .i64 m] w fun e w' => e = .returned (.agg #[.bool s2, .int .u64 (h3 : Int), .int .u64 (l2 : Int)]) ∧ Fr N0 w w' := by
    intro w h1 h2
    have := cut_ (w := w) ⟨s, h, l⟩ ⟨ho1, ho2⟩ m h1 h2
    rw [hcut] at this
    exact this
  have HC := Lib.hid hcut
  clear hcut
  have hw := Lib.hid (show widthA ⟨s, h, l⟩ ≤ 128 by unfold widthA; split <;> omega)
  have key : ∀ b, (validA ⟨s, h, l⟩ = b ∧ ((b = false ∧ ofP ⟨s, h, l⟩ m = (⟨⟨false, 0, 0⟩, 0⟩, 1)) ∨ (b = true ∧ m < 0 ∧ ofP ⟨s, h, l⟩ m = (⟨⟨false, 0, 0⟩, 0⟩, 1)) ∨ (b = true ∧ 0 ≤ m ∧ (widthA ⟨s, h, l⟩ : Int) < m ∧ decide (m < 0) = false ∧ ofP ⟨s, h, l⟩ m = (⟨⟨false, 0, 0⟩, 0⟩, 1)) ∨ (b = true ∧ 0 ≤ m ∧ m ≤ (widthA ⟨s, h, l⟩ : Int) ∧ decide ((widthA ⟨s, h, l⟩ : Int) < m) = false ∧ decide (m < 0) = false ∧ ofP ⟨s, h, l⟩ m = (⟨⟨s2, h3, l2⟩, m⟩, 0)))) →
      Calls Tryz.prog 48 #[adV ⟨s, h, l⟩, .int .i64 m] w fun e w' => e = .returned (.tuple #[pxV (ofP ⟨s, h, l⟩ m).1, .int .i64 (ofP ⟨s, h, l⟩ m).2]) ∧ Fr N0 w w' := by
    rintro b ⟨e1, hc⟩
    have k29 := fun w => c29 w e1
    have e1' := Lib.hid e1
    clear c29 e1
    go_enter Tryz.func48, Tryz.ntmps48
    unfold adV
    go_wp2_with fail
    have HA1 := Lib.hid ((Blk.new w 30 #[.bool s, .int .u64 (h : Int), .int .u64 (l : Int)]).alloc (.cells #[.bool false, .int .u64 0, .int .u64 0, .int .i64 0] 32))
    have HA2 := Lib.hid (Blk.alloc2 w (.cells #[.bool s, .int .u64 (h : Int), .int .u64 (l : Int)] 30) 32 #[.bool false, .int .u64 0, .int .u64 0, .int .i64 0])
    have HF1 := Lib.hid (Fr.alloc (Fr.alloc (Fr.refl N0 w) (.cells #[.bool s, .int .u64 (h : Int), .int .u64 (l : Int)] 30)) (.cells #[.bool false, .int .u64 0, .int .u64 0, .int .i64 0] 32))
    generalize (World.alloc (w.alloc _) _) = w1 at *
    obtain ⟨g2, hg2⟩ : ∃ g2, g2 = w.heap.size + 1 := ⟨_, rfl⟩
    rw [← hg2] at HA2 ⊢
    have HG2 : Hid (w.heap.size ≤ g2) := Lib.hid (by omega)
    clear hg2
    obtain ⟨g1, hg1⟩ : ∃ g1, g1 = w.heap.size := ⟨_, rfl⟩
    rw [← hg1] at HA1 ⊢
    clear hg1
    have HZ := Lib.hid (fun W (hf : Fr N0 w1 W) => (HA1.out.fr hf id).adx)
    have HY := Lib.hid (fun W (hf : Fr N0 w1 W) => (HA2.out.fr hf id))
    have F := Lib.hid (Fr.refl N0 w1)
    obtain ⟨z0, z1, z2⟩ := HZ.out _ F.out
    rcases hc with ⟨rfl, he⟩ | ⟨rfl, hm, he⟩ | ⟨rfl, hm, hd, hd0, he⟩ | ⟨rfl, hm, hm2, hd, hd0, he⟩
    all_goals
      have HE := Lib.hid he
      clear he
      (go_wp2_with (first
        | (refine wpList_store_row rfl 32 _ _ rfl g2 _ rfl rfl _ _ (HY.out _ F.out) rfl rfl (by simp [Value.oneCell']) ?_)
        | (go_at_call 65; refine (k29 _).mono ?_; rintro e w2 ⟨rfl, hf⟩; have F := Lib.hid (F.out.trans hf); obtain ⟨z0, z1, z2⟩ := HZ.out _ F.out)
        | (go_at_call 66; refine (c30 _).mono ?_; rintro e w2 ⟨rfl, hf⟩; have F := Lib.hid (F.out.trans hf); obtain ⟨z0, z1, z2⟩ := HZ.out _ F.out)
        | (go_at_call 67; refine (c31 _ hm (by have := hw.out; omega)).mono ?_; rintro e w2 ⟨rfl, hf⟩; have F := Lib.hid (F.out.trans hf); obtain ⟨z0, z1, z2⟩ := HZ.out _ F.out)))
      refine ret_cell2 rfl rfl ((HY.out _ F.out).row _) Tryz.underlying32 rfl ⟨?_, Fr.setRow (HF1.out.trans F.out) (.inr HG2.out) _⟩
      rw [HE.out]; rfl
  exact key _ ⟨rfl, by
    unfold ofP
    by_cases h0 : validA ⟨s, h, l⟩ = true
    · by_cases h1 : m < 0
      · exact .inr (.inl ⟨h0, h1, if_neg fun k => by omega⟩)
      · by_cases h2 : m ≤ (widthA ⟨s, h, l⟩ : Int)
        · exact .inr (.inr (.inr ⟨h0, by omega, h2, by simpa using h2, by simpa using h1, by rw [if_pos ⟨h0, by omega, h2⟩, HC.out]⟩))
        · exact .inr (.inr (.inl ⟨h0, by omega, by omega, by simpa using h1, if_neg fun k => by omega⟩))
    · exact .inl ⟨by simpa using h0, if_neg fun k => h0 k.1⟩⟩
end
end Go.Proofs.YtnklbeigikcfkaaGreatDoor
