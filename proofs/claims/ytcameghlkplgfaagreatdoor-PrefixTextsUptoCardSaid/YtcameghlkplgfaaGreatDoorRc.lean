/- The document's Cut. -/
import Derived.Test.YtcameghlkplgfaaGreatDoorRo
import Derived.Laws.OwnMore
namespace Go.Proofs.YtcameghlkplgfaaGreatDoor
open Go.RowKit
/-- The first bits of an address, the others 0. -/
def preB (a : Ad) (j : Nat) : List Nat := (List.range (widthA a)).map fun (i : Nat) => if i < j then bitA a (i : Int) else 0
theorem preB_len (a : Ad) (j : Nat) : (preB a j).length = widthA a := by simp [preB]
theorem preB_at {a : Ad} {j i : Nat} (h : i < widthA a) : (preB a j)[i]? = some (if i < j then bitA a (i : Int) else 0) := by
  unfold preB
  rw [List.getElem?_map, List.getElem?_range h]
  rfl
theorem preB_zero (a : Ad) : preB a 0 = List.replicate (widthA a) 0 := by
  unfold preB
  apply List.ext_getElem?
  intro k
  by_cases hk : k < widthA a
  · rw [List.getElem?_map, List.getElem?_range hk, List.getElem?_replicate_of_lt hk]; rfl
  · rw [List.getElem?_eq_none (by simp; omega), List.getElem?_eq_none (by simp; omega)]
theorem preB_set {a : Ad} {j : Nat} (hj : j < widthA a) : (preB a j).set j (bitA a (j : Int)) = preB a (j + 1) := by
  apply List.ext_getElem?
  intro k
  by_cases hk : k < widthA a
  · rw [List.getElem?_set, preB_at hk, preB_len]
    by_cases e : j = k
    · subst e
      rw [if_pos rfl, if_pos hj, preB_at hk, if_pos (by omega)]
    · rw [if_neg e, preB_at hk]
      by_cases h2 : k < j
      · rw [if_pos h2, if_pos (by omega)]
      · rw [if_neg h2, if_neg (by omega)]
  · rw [List.getElem?_eq_none (by simp [preB]; omega), List.getElem?_eq_none (by simp [preB]; omega)]
theorem preB_cut {a : Ad} (ho : a.ok) (hv : validA a = true) {m : Nat} (hm : m ≤ widthA a) : preB a m = bitsA (cutA a (m : Int)) := by
  have hw : widthA (cutA a (m : Int)) = widthA a := by unfold widthA; rw [cut_six]
  unfold preB bitsA
  rw [hw]
  refine List.map_congr_left fun i hi => ?_
  rw [bitA_cut ho hv hm (List.mem_range.1 hi)]
theorem made_eq (z : Value) (n : Nat) : madeCells #[z] n = (List.replicate n z).toArray := by
  rw [← toList_madeCells_one]
theorem info3 : (Tryz.prog.info? 3).map (fun i => (i.zero, i.size, i.bytes)) = some (some (.int .i64 0), 1, 8) := by kernel_rfl
section
variable {w : World}
set_option maxHeartbeats 3200000 in
set_option maxRecDepth 100000 in
theorem rcut (a : Ad) (ho : a.ok) (hv : validA a = true) (m : Nat) (hm : m ≤ widthA a) :
    Calls Tryz.prog 42 #[adV a, .int .i64 (m : Int)] w fun e w' => e = .returned (adV (cutA a (m : Int))) ∧ Fr N0 w w' := by
  obtain ⟨i0, hi, hz0, hz1, hz2⟩ := info_parts info3
  have HPC := Lib.hid (preB_cut ho hv hm)
  have HP0 := Lib.hid (preB_zero a)
  have HPA := Lib.hid fun (j i : Nat) (h : i < widthA a) => preB_at (a := a) (j := j) h
  have HPS := Lib.hid fun (j : Nat) (h : j < widthA a) => preB_set (a := a) h
  have HC := Lib.hid fun (w : World) (g n : Nat) (hn : n = widthA (cutA a (m : Int))) (hB : Blk w g 3 ((bitsA (cutA a (m : Int))).map i64v).toArray) => rof (w := w) (cutA a (m : Int)) (cut_ok ho _) (cut_valid hv _) g n hn hB
  have HCS := Lib.hid (cut_six a (m : Int))
  have HCW := Lib.hid (show widthA (cutA a (m : Int)) = widthA a by unfold widthA; rw [cut_six])
  obtain ⟨b, hb⟩ : ∃ b, b = cutA a (m : Int) := ⟨_, rfl⟩
  rw [← hb] at HPC HC HCS HCW ⊢
  clear hb
  obtain ⟨n, hn⟩ : ∃ n, n = widthA a := ⟨_, rfl⟩
  have kw : ∀ w : World, Calls Tryz.prog 41 #[adV a] w fun e w' => e = .returned (.int .i64 (n : Int)) ∧ Fr N0 w w' := fun w => by rw [hn]; exact rwid a
  have kb := fun (w : World) (i : Int) (h1 : -9223372036854775808 ≤ i) (h2 : i ≤ 9223372036854775807) => rbit (w := w) a ho i h1 h2
  have hn128 : n ≤ 128 := by rw [hn]; unfold widthA; split <;> omega
  have hmk := fun W => run_make_rowN (P := Tryz.prog) 65 3 i0 _ Tryz.underlying65 hi hz0 .i64 .i64 n n (Nat.le_refl _) (by rw [hz2]; omega) (by omega) W
  rw [hz1] at hmk
  simp only [Nat.mul_one] at hmk
  rw [show (Value.int IntKind.i64 0).cells = #[Value.int IntKind.i64 0] from rfl] at hmk
  rw [← hn] at hm HP0 HPA HPS HCW
  have HN := Lib.hid hn
  clear ho hv hn hz0 hz1 hz2 hi
  obtain ⟨s, h, l⟩ := a
  unfold adV at kw kb
  go_enter Tryz.func42, Tryz.ntmps42
  unfold adV
  go_wp2_with fail
  have HA1 := Lib.hid ((Blk.new w 24 #[Value.bool s, Value.int .u64 (h : Int), Value.int .u64 (l : Int)]).alloc (.cells #[Value.bool false, Value.int .u64 0, Value.int .u64 0] 24))
  have HA2 := Lib.hid (Blk.alloc2 w (.cells #[Value.bool s, Value.int .u64 (h : Int), Value.int .u64 (l : Int)] 24) 24 #[Value.bool false, Value.int .u64 0, Value.int .u64 0])
  have HF1 := Lib.hid (Fr.alloc (Fr.alloc (Fr.refl N0 w) (.cells #[Value.bool s, Value.int .u64 (h : Int), Value.int .u64 (l : Int)] 24)) (.cells #[Value.bool false, Value.int .u64 0, Value.int .u64 0] 24))
  generalize World.alloc (w.alloc _) _ = w1 at *
  obtain ⟨g2, hg2⟩ : ∃ g2, g2 = w.heap.size + 1 := ⟨_, rfl⟩
  rw [← hg2] at HA2 ⊢
  have HG2 : Hid (w.heap.size ≤ g2) := Lib.hid (by omega)
  obtain ⟨g1, hg1⟩ : ∃ g1, g1 = w.heap.size := ⟨_, rfl⟩
  rw [← hg1] at HA1 ⊢
  have HG1 : Hid (w.heap.size ≤ g1) := Lib.hid (by omega)
  have HN1_2 : Hid (g1 ≠ g2) := Lib.hid (by omega)
  clear hg1 hg2
  have HZ1 : Hid (∀ W, Fr N0 w1 W → Blk W g1 24 #[Value.bool s, Value.int .u64 (h : Int), Value.int .u64 (l : Int)]) := Lib.hid fun W hf => HA1.out.fr hf id
  have HZ2 : Hid (∀ W, Fr N0 w1 W → Blk W g2 24 #[Value.bool false, Value.int .u64 0, Value.int .u64 0]) := Lib.hid fun W hf => HA2.out.fr hf id
  have F := Lib.hid (Fr.refl N0 w1)
  obtain ⟨z1_0, z1_1, z1_2⟩ := (HZ1.out _ F.out).c3
  obtain ⟨z2_0, z2_1, z2_2⟩ := (HZ2.out _ F.out).c3
  (go_wp2_with (first
    | (go_at_call 41; refine (kw _).mono ?_; rintro e w2 ⟨rfl, hf⟩; have F := Lib.hid (F.out.trans hf); obtain ⟨z1_0, z1_1, z1_2⟩ := (HZ1.out _ F.out).c3; obtain ⟨z2_0, z2_1, z2_2⟩ := (HZ2.out _ F.out).c3)))
  have HF2 := Lib.hid (HF1.out.trans F.out)
  have HB := Lib.hid (Blk.new w2 3 (madeCells #[Value.int IntKind.i64 0] n))
  have HF3 := Lib.hid (Fr.alloc (Fr.refl N0 w2) (.cells (madeCells #[Value.int IntKind.i64 0] n) 3))
  have HY1 := Lib.hid ((HZ1.out _ F.out).alloc (.cells (madeCells #[Value.int IntKind.i64 0] n) 3))
  have HY2 := Lib.hid ((HZ2.out _ F.out).alloc (.cells (madeCells #[Value.int IntKind.i64 0] n) 3))
  have hlt1 := (HZ1.out _ F.out).lt
  have hlt2 := (HZ2.out _ F.out).lt
  generalize w2.alloc _ = w3 at *
  obtain ⟨g3, hg3⟩ : ∃ g, g = w2.heap.size := ⟨_, rfl⟩
  rw [← hg3] at HB ⊢
  have N13 := Lib.hid (show g1 ≠ g3 by omega)
  have N23 := Lib.hid (show g2 ≠ g3 by omega)
  have HG3 := Lib.hid (show w.heap.size ≤ g3 by have := HF2.out.size; omega)
  have HBB : Hid (Blk w3 g3 3 ((preB ⟨s, h, l⟩ 0).map i64v).toArray) := by
    rw [HP0.out, List.map_replicate]
    have := HB.out
    rw [made_eq] at this
    exact Lib.hid this
  clear HB hmk z1_0 z1_1 z1_2 z2_0 z2_1 z2_2 hlt1 hlt2 hg3 hf HZ1 HZ2 kw HA1 HA2
  go_loopw [6] (fun i wr => ∃ j : Nat, j ≤ m ∧ i = .int .i64 (j : Int) ∧ Blk wr g3 3 ((preB ⟨s, h, l⟩ j).map i64v).toArray ∧ Fr (fun i => i = g3) w3 wr) (fun i _ => m + 1 - (RowKit.intOf i).toNat)
  case atStart => exact ⟨0, Nat.zero_le _, rfl, HBB.out, Fr.refl _ _⟩
  case round =>
    obtain ⟨j, hj, rfl, hb, hF⟩ := hrel
    have B := Lib.hid hb
    have G := Lib.hid hF
    have A1 := Lib.hid (HY1.out.fr hF N13.out)
    have A2 := Lib.hid (HY2.out.fr hF N23.out)
    obtain ⟨z0, z1, z2⟩ := A1.out.c3
    clear hb hF
    by_cases hjm : j < m
    · have hjn : j < n := by omega
      have k1 := fun w => kb w (j : Int) (by omega) (by omega)
      have HA := Lib.hid (HPA.out j j hjn)
      have HS := Lib.hid (HPS.out j hjn)
      generalize bitA ⟨s, h, l⟩ (j : Int) = x at *
      clear kb
      go_wp2_with (go_at_call 62; refine (k1 _).mono ?_; rintro e w5 ⟨rfl, hf5⟩; have B5 := Lib.hid (B.out.fr hf5 id); have y := B5.out.cell j; rw [List.getElem?_toArray, List.getElem?_map, HA.out, if_neg (Nat.lt_irrefl j)] at y; replace y : w5.cell? ⟨g3, j, none⟩ = some (.int .i64 0) := y; have fz := B5.out.frozen j)
      go_roundw
      case rel =>
        have HB : Blk (w5.setCell ⟨g3, j, none⟩ (.int .i64 (x : Int))) g3 3 ((preB ⟨s, h, l⟩ (j + 1)).map i64v).toArray := by
          have := B5.out.set_ j (i64v x)
          rw [List.setIfInBounds_toArray, ← List.map_set, HS.out] at this
          exact this
        exact ⟨j + 1, by omega, by go_num, HB, (G.out.trans (hf5.mono fun _ _ h => h.elim)).setCell (.inl rfl) _⟩
      case measure => simp [RowKit.intOf]; omega
    · obtain rfl : j = m := by omega
      have BB : Hid (Blk wr g3 3 ((bitsA b).map i64v).toArray) := by rw [← HPC.out]; exact B
      have kc := fun W (hf : Fr N0 wr W) => HC.out W g3 n HCW.out.symm (BB.out.fr hf id)
      rw [HCS.out] at kc
      have hs4 := fun W (hf : Fr N0 wr W) => A2.out.fr hf id
      clear kb
      have HFR := Lib.hid (HF2.out.trans HF3.out)
      by_cases hjn : j < n
      all_goals
        go_wp2_with (first
          | (go_at_call 63; refine (kc _ (Fr.refl _ _)).mono ?_; rintro e w6 ⟨rfl, hf6⟩; have F6 := Lib.hid hf6)
          | (refine wpList_store_row rfl 24 _ _ rfl g2 _ rfl rfl _ _ (hs4 _ F6.out) rfl rfl (by simp [Value.oneCell']) ?_))
        refine ret_cell rfl rfl ((hs4 _ F6.out).row _) Tryz.underlying24 rfl ⟨rfl, Fr.setRow ((HFR.out.step G.out fun i hi => .inr (hi ▸ HG3.out)).trans F6.out) (.inr HG2.out) _⟩
end
end Go.Proofs.YtcameghlkplgfaaGreatDoor
