/- addr.Of of any bytes. -/
import Derived.Test.YtejddfgmfdpnfaaDoorO4
namespace Go.Proofs.YtejddfgmfdpnfaaDoor
open Go.Proofs Go.Shelf Go.RowKit
/-- What bytes are as an address. -/
def ofB (bs : List Nat) : Ad × Int := if bs.length = 4 then (⟨false, 0, acc bs⟩, 0) else if bs.length = 16 then (⟨true, acc (bs.take 8), acc (bs.drop 8)⟩, 0) else (⟨false, 0, 0⟩, 20)
section
variable {w : World}
set_option maxHeartbeats 3200000 in
set_option maxRecDepth 100000 in
theorem of_bad (A : Option Addr) (n c : Nat) (h4 : n ≠ 4) (h16 : n ≠ 16) : Calls Tryd.prog 24 #[.slice A n c] w fun e w' => e = .returned (.tuple #[adV ⟨false, 0, 0⟩, .int .i64 20]) ∧ Fr N0 w w' := by
  have e1 : ((n : Int) == 4) = false := by simp; omega
  have e2 : ((n : Int) == 16) = false := by simp; omega
  have e3 : decide ((n : Int) = 4) = false := decide_eq_false (by omega)
  have e4 : decide ((n : Int) = 16) = false := decide_eq_false (by omega)
  have e5 : decide (n = 4) = false := decide_eq_false h4
  have e6 : decide (n = 16) = false := decide_eq_false h16
  have i1 : ((n : Int) != 4) = true := by simp; omega
  have i2 : ((n : Int) != 16) = true := by simp; omega
  have i3 : ¬ (n : Int) = 4 := by omega
  have i4 : ¬ (n : Int) = 16 := by omega
  go_enter Tryd.func24, Tryd.ntmps24
  go_wp2_with (refine wpList_store_row rfl 25 _ _ rfl w.heap.size _ rfl rfl _ _ ((Blk.new w 25 #[.bool false, .int .u64 0, .int .u64 0]).alloc (.cells #[.bool false, .int .u64 0, .int .u64 0] 25)) rfl rfl (by simp [Value.oneCell']) ?_)
  refine ret_cell2 rfl rfl (((Blk.new w 25 #[.bool false, .int .u64 0, .int .u64 0]).alloc (.cells #[.bool false, .int .u64 0, .int .u64 0] 25)).row _) Tryd.underlying25 rfl ⟨rfl, Fr.setRow (((Fr.refl N0 w).alloc _).alloc _) (.inr (Nat.le_refl _)) _⟩
set_option maxHeartbeats 3200000 in
set_option maxRecDepth 100000 in
theorem of16 (g c : Nat) (bs : List Nat) (h4 : bs.length = 16) (hB : ∀ (i x : Nat), bs[i]? = some x → w.cell? ⟨g, i, none⟩ = some (.int .u8 (x : Int))) (hlt : ∀ u ∈ bs, u < 256) : Calls Tryd.prog 24 #[.slice (some ⟨g, 0, none⟩) 16 c] w fun e w' => e = .returned (.tuple #[adV ⟨true, acc (bs.take 8), acc (bs.drop 8)⟩, .int .i64 0]) ∧ Fr N0 w w' := by
  have HB := Lib.hid hB
  have HL := Lib.hid hlt
  have H4 := Lib.hid h4
  have hgl : g < w.heap.size := World.block_lt_of_cell? _ _ (HB.out 0 (bs[0]'(by rw [H4.out]; omega)) (List.getElem?_eq_getElem (by rw [H4.out]; omega)))
  have HGL := Lib.hid hgl
  clear hB hlt h4
  go_enter Tryd.func24, Tryd.ntmps24
  go_wp2_with fail
  have HF2 := Lib.hid (Fr.alloc (Fr.alloc (Fr.refl N0 w) (.cells #[.bool false, .int .u64 0, .int .u64 0] 25)) (.cells #[.bool true, .int .u64 0, .int .u64 0] 25))
  have HB2 := Lib.hid ((Blk.new w 25 #[.bool false, .int .u64 0, .int .u64 0]).alloc (.cells #[.bool true, .int .u64 0, .int .u64 0] 25))
  have HB5 := Lib.hid (Blk.alloc2 w (.cells #[.bool false, .int .u64 0, .int .u64 0] 25) 25 #[.bool true, .int .u64 0, .int .u64 0])
  generalize World.alloc (w.alloc _) _ = w2 at *
  obtain ⟨g5, hg5⟩ : ∃ g, g = w.heap.size + 1 := ⟨_, rfl⟩
  rw [← hg5] at HB5 ⊢
  obtain ⟨g2, hg2⟩ : ∃ g, g = w.heap.size := ⟨_, rfl⟩
  rw [← hg2] at HB2 ⊢
  have N25 := Lib.hid (show g2 ≠ g5 by omega)
  have NG5 := Lib.hid (show g ≠ g5 by omega)
  have HG5 := Lib.hid (show w.heap.size ≤ g5 by omega)
  have HG2 := Lib.hid (show w.heap.size ≤ g2 by omega)
  clear hg2 hg5 hgl
  go_loopw [22] (fun i wr => ∃ j : Nat, j ≤ 16 ∧ i = .int .i64 (j : Int) ∧ Blk wr g5 25 #[.bool true, .int .u64 (acc ((bs.take 8).take j) : Int), .int .u64 (acc ((bs.drop 8).take (j - 8)) : Int)] ∧ Fr (fun i => i = g5) w2 wr) (fun i _ => 17 - (RowKit.intOf i).toNat)
  case atStart => exact ⟨0, by omega, rfl, HB5.out, Fr.refl _ _⟩
  case round =>
    obtain ⟨j, hj, rfl, hb5, hF⟩ := hrel
    have B5 := Lib.hid hb5
    have G := Lib.hid hF
    have B2 := Lib.hid (HB2.out.fr hF N25.out)
    have BG : Hid (∀ (i x : Nat), bs[i]? = some x → wr.cell? ⟨g, i, none⟩ = some (.int .u8 (x : Int))) := Lib.hid fun i x h => (hF.cell (p := ⟨g, i, none⟩) (Nat.lt_of_lt_of_le HGL.out HF2.out.size) NG5.out).trans ((HF2.out.cell (p := ⟨g, i, none⟩) HGL.out id).trans (HB.out i x h))
    clear hb5 hF
    by_cases hj4 : j < 16
    · have hjI : (j : Int) < 16 := by omega
      obtain ⟨u, hu⟩ : ∃ u, bs[j]? = some u := ⟨_, List.getElem?_eq_getElem (by rw [H4.out]; exact hj4)⟩
      have hu2 : u < 256 := HL.out u (List.mem_of_getElem? hu)
      have x0 := BG.out j u hu
      have HOR := Lib.hid fun (lo : Nat) => shl8_bits (lo := lo) hu2
      by_cases hj8 : j < 8
      · have hj8I : (j : Int) < 8 := by omega
        have e0 : j - 8 = 0 := by omega
        have e1 : j + 1 - 8 = 0 := by omega
        have hb := acc_lt _ ((bs.take 8).take j) rfl (fun x hx => HL.out x (List.mem_of_mem_take (List.mem_of_mem_take hx)))
        have hl : ((bs.take 8).take j).length ≤ 7 := by rw [List.length_take]; omega
        have h3 : 256 ^ ((bs.take 8).take j).length ≤ 256 ^ 7 := Nat.pow_le_pow_right (by omega) hl
        have HN := Lib.hid (show acc ((bs.take 8).take (j + 1)) = shl8 (acc ((bs.take 8).take j)) u by
          rw [List.take_add_one, List.getElem?_take, if_pos hj8, hu, Option.toList_some, acc_snoc, shl8_small (by omega) hu2])
        have hlo : acc ((bs.take 8).take j) < 72057594037927936 := by omega
        have hLO : acc ((bs.drop 8).take 0) = 0 := rfl
        rw [e0, hLO] at B5
        clear hb hl h3 hu hLO e0
        obtain ⟨lo, hlo2⟩ : ∃ lo, lo = acc ((bs.take 8).take j) := ⟨_, rfl⟩
        rw [← hlo2] at hlo HN B5
        clear hlo2
        have HO1 := Lib.hid (HOR.out lo)
        have HO2 : Hid (bits .or .u64 ((lo : Int) * 256) (u : Int) = ((shl8 lo u : Nat) : Int)) := Lib.hid (by
          have h := HOR.out lo
          have e : IntKind.u64.wrap ((lo : Int) * 256) = (lo : Int) * 256 := by rw [IntKind.wrap_u64]; omega
          rwa [e] at h)
        obtain ⟨z0, z1, z2⟩ := B5.out.c3
        have fz := B5.out.frozen 1
        go_wp2_with fail
        refine ⟨⟨j + 1, by omega, by go_num, ?_, G.out.setCell (.inl rfl) _⟩, by simp [RowKit.intOf]; omega⟩
        rw [HN.out, e1]
        first | rw [HO2.out] | rw [HO1.out]
        exact B5.out.set_ 1 _
      · have hj8I : decide ((j : Int) < 8) = false := decide_eq_false (by omega)
        have e0 : (bs.take 8).take j = bs.take 8 := List.take_of_length_le (by rw [List.length_take]; omega)
        have e1 : (bs.take 8).take (j + 1) = bs.take 8 := List.take_of_length_le (by rw [List.length_take]; omega)
        obtain ⟨i, rfl⟩ : ∃ i, j = 8 + i := ⟨j - 8, by omega⟩
        have e2 : 8 + i - 8 = i := by omega
        have e3 : 8 + i + 1 - 8 = i + 1 := by omega
        rw [e0, e2] at B5
        have hb := acc_lt _ ((bs.drop 8).take i) rfl (fun x hx => HL.out x (List.mem_of_mem_drop (List.mem_of_mem_take hx)))
        have hl : ((bs.drop 8).take i).length ≤ 7 := by rw [List.length_take]; omega
        have h3 : 256 ^ ((bs.drop 8).take i).length ≤ 256 ^ 7 := Nat.pow_le_pow_right (by omega) hl
        have HN := Lib.hid (show acc ((bs.drop 8).take (i + 1)) = shl8 (acc ((bs.drop 8).take i)) u by
          rw [List.take_add_one, List.getElem?_drop, hu, Option.toList_some, acc_snoc, shl8_small (by omega) hu2])
        have hlo : acc ((bs.drop 8).take i) < 72057594037927936 := by omega
        have HE := Lib.hid e1
        have HE3 := Lib.hid e3
        clear hb hl h3 hu e0 e2 e1 e3
        obtain ⟨lo, hlo2⟩ : ∃ lo, lo = acc ((bs.drop 8).take i) := ⟨_, rfl⟩
        rw [← hlo2] at hlo HN B5
        clear hlo2
        generalize hhi : acc (bs.take 8) = hi at *
        have HHI := Lib.hid hhi
        clear hhi
        have HO1 := Lib.hid (HOR.out lo)
        have HO2 : Hid (bits .or .u64 ((lo : Int) * 256) (u : Int) = ((shl8 lo u : Nat) : Int)) := Lib.hid (by
          have h := HOR.out lo
          have e : IntKind.u64.wrap ((lo : Int) * 256) = (lo : Int) * 256 := by rw [IntKind.wrap_u64]; omega
          rwa [e] at h)
        obtain ⟨z0, z1, z2⟩ := B5.out.c3
        have fz := B5.out.frozen 2
        go_wp2_with fail
        refine ⟨⟨8 + i + 1, by omega, by go_num, ?_, G.out.setCell (.inl rfl) _⟩, by simp [RowKit.intOf]; omega⟩
        rw [HE.out, HE3.out, HN.out, HHI.out]
        first | rw [HO2.out] | rw [HO1.out]
        exact B5.out.set_ 2 _
    · obtain rfl : j = 16 := by omega
      have hall : (bs.take 8).take 16 = bs.take 8 := List.take_of_length_le (by rw [List.length_take]; omega)
      have hall2 : (bs.drop 8).take (16 - 8) = bs.drop 8 := List.take_of_length_le (by rw [List.length_drop, H4.out]; omega)
      rw [hall, hall2] at B5
      obtain ⟨z0, z1, z2⟩ := B5.out.c3
      go_wp2_with (refine wpList_store_row rfl 25 _ _ rfl g2 _ rfl rfl _ _ B2.out rfl rfl (by simp [Value.oneCell']) ?_)
      refine ret_cell2 rfl rfl (B2.out.row _) Tryd.underlying25 rfl ⟨rfl, Fr.setRow (HF2.out.step G.out fun i hi => .inr (hi ▸ HG5.out)) (.inr HG2.out) _⟩
end
end Go.Proofs.YtejddfgmfdpnfaaDoor
