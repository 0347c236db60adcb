/- The document's Of of bytes. -/
import Derived.Test.YtejddfgmfdpnfaaDoorO5
namespace Go.Proofs.YtejddfgmfdpnfaaDoor
open Go.Proofs Go.Shelf Go.RowKit
section
variable {w : World}
set_option maxHeartbeats 3200000 in
set_option maxRecDepth 100000 in
theorem get_ (g o n c a k : Nat) (bs : List Nat) (hn : bs.length = n) (hk : k ≤ 8) (hak : a + k ≤ n) (hn16 : n ≤ 16) (hB : ∀ (i x : Nat), bs[i]? = some x → w.cell? ⟨g, o + i, none⟩ = some (.int .u8 (x : Int))) (hlt : ∀ u ∈ bs, u < 256) :
    Calls Tryd.prog 44 #[.slice (some ⟨g, o, none⟩) n c, .int .i64 (a : Int), .int .i64 (k : Int)] w fun e w' => e = .returned (.tuple #[.int .u64 (acc ((bs.drop a).take k) : Int), .bool true]) ∧ w = w' := by
  have HB := Lib.hid hB
  have HL := Lib.hid hlt
  have H4 := Lib.hid hn
  have i1 : ¬ (k : Int) < 0 := by omega
  have i2 : ¬ (8 : Int) < (k : Int) := by omega
  have i3 : ¬ (a : Int) < 0 := by omega
  have i4 : ¬ (n : Int) < (a : Int) := by omega
  have i5 : ¬ ((n : Int) - (a : Int)) < (k : Int) := by omega
  clear hB hlt hn
  go_enter Tryd.func44, Tryd.ntmps44
  go_wp2_with fail
  go_loop [8, 9] (fun v i => ∃ j : Nat, j ≤ k ∧ i = .int .i64 ((a : Int) + (j : Int)) ∧ v = .int .u64 (acc ((bs.drop a).take j) : Int)) (fun _ i => k + 1 - (RowKit.intOf i - a).toNat)
  case atStart => exact ⟨0, by omega, by simp, rfl⟩
  case round =>
    obtain ⟨j, hj, rfl, rfl⟩ := hrel
    by_cases hjk : j < k
    · have hjI : (a : Int) + (j : Int) < (a : Int) + (k : Int) := by omega
      obtain ⟨u, hu⟩ : ∃ u, bs[a + j]? = some u := ⟨_, List.getElem?_eq_getElem (by rw [H4.out]; omega)⟩
      have hu2 : u < 256 := HL.out u (List.mem_of_getElem? hu)
      have x0 := HB.out _ _ hu
      have hb := acc_lt _ ((bs.drop a).take j) rfl (fun x hx => HL.out x (List.mem_of_mem_drop (List.mem_of_mem_take hx)))
      have hl : ((bs.drop a).take j).length ≤ 7 := by rw [List.length_take]; omega
      have h3 : 256 ^ ((bs.drop a).take j).length ≤ 256 ^ 7 := Nat.pow_le_pow_right (by omega) hl
      have HN := Lib.hid (show acc ((bs.drop a).take (j + 1)) = acc ((bs.drop a).take j) * 256 + u by
        rw [List.take_add_one, List.getElem?_drop, hu, Option.toList_some, acc_snoc])
      have hlo : acc ((bs.drop a).take j) < 72057594037927936 := by omega
      clear hb hl h3 hu
      generalize acc ((bs.drop a).take j) = lo at *
      have han : (a : Int) + (j : Int) < (n : Int) := by omega
      have han0 : 0 ≤ (a : Int) + (j : Int) := by omega
      go_wp2_with fail
      refine ⟨⟨j + 1, by omega, by go_num, ?_⟩, by simp [RowKit.intOf]; omega⟩
      rw [HN.out]
      simp
    · obtain rfl : j = k := by omega
      go_wp2_with fail
      go_ret2
      exact ⟨rfl, rfl⟩
set_option maxHeartbeats 3200000 in
set_option maxRecDepth 100000 in
theorem rof_bad (A : Option Addr) (n c : Nat) (h4 : n ≠ 4) (h16 : n ≠ 16) : Calls Tryd.prog 25 #[.slice A n c] w fun e w' => e = .returned (.tuple #[adV ⟨false, 0, 0⟩, .int .i64 20]) ∧ Fr N0 w w' := by
  have e1 : ((n : Int) == 4) = false := by simp; omega
  have e2 : ((n : Int) == 16) = false := by simp; omega
  have i3 : ¬ (n : Int) = 4 := by omega
  have i4 : ¬ (n : Int) = 16 := by omega
  go_enter Tryd.func25, Tryd.ntmps25
  go_wp2_with (refine wpList_store_row rfl 25 _ _ rfl w.heap.size _ rfl rfl _ _ (Blk.new w 25 #[.bool false, .int .u64 0, .int .u64 0]) rfl rfl (by simp [Value.oneCell']) ?_)
  refine ret_cell2 rfl rfl ((Blk.new w 25 #[.bool false, .int .u64 0, .int .u64 0]).row _) Tryd.underlying25 rfl ⟨rfl, Fr.setRow ((Fr.refl N0 w).alloc _) (.inr (Nat.le_refl _)) _⟩
set_option maxHeartbeats 3200000 in
set_option maxRecDepth 100000 in
theorem rof4 (g o c : Nat) (bs : List Nat) (h4 : bs.length = 4) (hB : ∀ (i x : Nat), bs[i]? = some x → w.cell? ⟨g, o + i, none⟩ = some (.int .u8 (x : Int))) (hlt : ∀ u ∈ bs, u < 256) : Calls Tryd.prog 25 #[.slice (some ⟨g, o, none⟩) 4 c] w fun e w' => e = .returned (.tuple #[adV ⟨false, 0, acc bs⟩, .int .i64 0]) ∧ Fr N0 w w' := by
  have hg : g < w.heap.size := World.block_lt_of_cell? _ _ (hB 0 (bs[0]'(by omega)) (List.getElem?_eq_getElem (by omega)))
  have k44 := get_ (w := w.alloc (.cells #[.bool false, .int .u64 0, .int .u64 0] 25)) g o 4 c 0 4 bs h4 (by omega) (by omega) (by omega) (fun i x h => ((Fr.alloc (Fr.refl N0 w) _).cell hg id).trans (hB i x h)) hlt
  have e : (bs.drop 0).take 4 = bs := List.take_of_length_le (by simp [h4])
  rw [e] at k44
  replace k44 : Calls Tryd.prog 44 #[.slice (some ⟨g, o, none⟩) 4 c, .int .i64 0, .int .i64 4] (w.alloc (.cells #[.bool false, .int .u64 0, .int .u64 0] 25)) fun e w' => e = .returned (.tuple #[.int .u64 (acc bs : Int), .bool true]) ∧ (w.alloc (.cells #[.bool false, .int .u64 0, .int .u64 0] 25)) = w' := k44
  clear hB hlt h4 e hg
  go_enter Tryd.func25, Tryd.ntmps25
  go_wp2_with (first
    | (go_at_call 44; refine k44.mono ?_; rintro e w' ⟨rfl, rfl⟩)
    | (refine wpList_store_row rfl 25 _ _ rfl w.heap.size _ rfl rfl _ _ (Blk.new w 25 #[.bool false, .int .u64 0, .int .u64 0]) rfl rfl (by simp [Value.oneCell']) ?_))
  refine ret_cell2 rfl rfl ((Blk.new w 25 #[.bool false, .int .u64 0, .int .u64 0]).row _) Tryd.underlying25 rfl ⟨rfl, Fr.setRow ((Fr.refl N0 w).alloc _) (.inr (Nat.le_refl _)) _⟩
set_option maxHeartbeats 3200000 in
set_option maxRecDepth 100000 in
theorem rof16 (g o c : Nat) (bs : List Nat) (h4 : bs.length = 16) (hB : ∀ (i x : Nat), bs[i]? = some x → w.cell? ⟨g, o + i, none⟩ = some (.int .u8 (x : Int))) (hlt : ∀ u ∈ bs, u < 256) : Calls Tryd.prog 25 #[.slice (some ⟨g, o, none⟩) 16 c] w fun e w' => e = .returned (.tuple #[adV ⟨true, acc (bs.take 8), acc (bs.drop 8)⟩, .int .i64 0]) ∧ Fr N0 w w' := by
  have hg : g < w.heap.size := World.block_lt_of_cell? _ _ (hB 0 (bs[0]'(by omega)) (List.getElem?_eq_getElem (by omega)))
  have k1 := get_ (w := w.alloc (.cells #[.bool false, .int .u64 0, .int .u64 0] 25)) g o 16 c 0 8 bs h4 (by omega) (by omega) (by omega) (fun i x h => ((Fr.alloc (Fr.refl N0 w) _).cell hg id).trans (hB i x h)) hlt
  have k2 := get_ (w := w.alloc (.cells #[.bool false, .int .u64 0, .int .u64 0] 25)) g o 16 c 8 8 bs h4 (by omega) (by omega) (by omega) (fun i x h => ((Fr.alloc (Fr.refl N0 w) _).cell hg id).trans (hB i x h)) hlt
  have e2 : (bs.drop 8).take 8 = bs.drop 8 := List.take_of_length_le (by simp [h4])
  rw [List.drop_zero] at k1
  rw [e2] at k2
  replace k1 : Calls Tryd.prog 44 #[.slice (some ⟨g, o, none⟩) 16 c, .int .i64 0, .int .i64 8] (w.alloc (.cells #[.bool false, .int .u64 0, .int .u64 0] 25)) fun e w' => e = .returned (.tuple #[.int .u64 (acc (bs.take 8) : Int), .bool true]) ∧ (w.alloc (.cells #[.bool false, .int .u64 0, .int .u64 0] 25)) = w' := k1
  replace k2 : Calls Tryd.prog 44 #[.slice (some ⟨g, o, none⟩) 16 c, .int .i64 8, .int .i64 8] (w.alloc (.cells #[.bool false, .int .u64 0, .int .u64 0] 25)) fun e w' => e = .returned (.tuple #[.int .u64 (acc (bs.drop 8) : Int), .bool true]) ∧ (w.alloc (.cells #[.bool false, .int .u64 0, .int .u64 0] 25)) = w' := k2
  clear hB hlt h4 e2 hg
  go_enter Tryd.func25, Tryd.ntmps25
  go_wp2_with (first
    | (go_at_call 44; first
      | ((with_reducible refine k1.mono ?_); rintro e w' ⟨rfl, rfl⟩)
      | ((with_reducible refine k2.mono ?_); rintro e w' ⟨rfl, rfl⟩))
    | (refine wpList_store_row rfl 25 _ _ rfl w.heap.size _ rfl rfl _ _ (Blk.new w 25 #[.bool false, .int .u64 0, .int .u64 0]) rfl rfl (by simp [Value.oneCell']) ?_))
  refine ret_cell2 rfl rfl ((Blk.new w 25 #[.bool false, .int .u64 0, .int .u64 0]).row _) Tryd.underlying25 rfl ⟨rfl, Fr.setRow ((Fr.refl N0 w).alloc _) (.inr (Nat.le_refl _)) _⟩
set_option maxHeartbeats 3200000 in
set_option maxRecDepth 100000 in
theorem same0 (A B : Option Addr) (c d : Nat) : Calls Tryd.prog 14 #[.slice A 0 c, .slice B 0 d] w fun e w' => e = .returned (.bool true) ∧ Fr N0 w w' := by
  go_enter Tryd.func14, Tryd.ntmps14
  go_wp2_with fail
  go_loopw [5] (fun i wr => i = .int .i64 0 ∧ Fr N0 w wr) (fun _ _ => 0)
  case atStart => exact ⟨rfl, Fr.refl _ _⟩
  case round =>
    obtain ⟨rfl, hF⟩ := hrel
    go_wp2_with fail
    go_ret
    exact ⟨rfl, hF⟩
set_option maxHeartbeats 3200000 in
set_option maxRecDepth 100000 in
theorem samen (g o n c g' o' d : Nat) (bs : List Nat) (hn : bs.length = n) (hx : n ≤ 140737488355328) (hB : ∀ (i x : Nat), bs[i]? = some x → w.cell? ⟨g, o + i, none⟩ = some (.int .u8 (x : Int))) (hB' : ∀ (i x : Nat), bs[i]? = some x → w.cell? ⟨g', o' + i, none⟩ = some (.int .u8 (x : Int))) :
    Calls Tryd.prog 14 #[.slice (some ⟨g, o, none⟩) n c, .slice (some ⟨g', o', none⟩) n d] w fun e w' => e = .returned (.bool true) ∧ Fr N0 w w' := by
  have HB := Lib.hid hB
  have HB' := Lib.hid hB'
  have HN := Lib.hid hn
  clear hB hB' hn
  go_enter Tryd.func14, Tryd.ntmps14
  go_wp2_with fail
  go_loopw [5] (fun i wr => ∃ j : Nat, j ≤ n ∧ i = .int .i64 (j : Int) ∧ Fr N0 w wr) (fun i _ => n + 1 - (RowKit.intOf i).toNat)
  case atStart => exact ⟨0, by omega, rfl, Fr.refl _ _⟩
  case round =>
    obtain ⟨j, hj, rfl, hF⟩ := hrel
    have G := Lib.hid hF
    clear hF
    by_cases hjn : j < n
    · have hjI : (j : Int) < n := by omega
      obtain ⟨u, hu⟩ : ∃ u, bs[j]? = some u := ⟨_, List.getElem?_eq_getElem (by rw [HN.out]; exact hjn)⟩
      have x0 := (G.out.cell (World.block_lt_of_cell? _ _ (HB.out j u hu)) id).trans (HB.out j u hu)
      have x1 := (G.out.cell (World.block_lt_of_cell? _ _ (HB'.out j u hu)) id).trans (HB'.out j u hu)
      clear hu
      go_wp2_with fail
      go_region
      all_goals go_wp2_with fail
      all_goals exact ⟨⟨j + 1, by omega, by go_num, G.out.drew⟩, by simp [RowKit.intOf]; omega⟩
    · obtain rfl : j = n := by omega
      go_wp2_with fail
      go_ret
      exact ⟨rfl, G.out⟩
end
end Go.Proofs.YtejddfgmfdpnfaaDoor
