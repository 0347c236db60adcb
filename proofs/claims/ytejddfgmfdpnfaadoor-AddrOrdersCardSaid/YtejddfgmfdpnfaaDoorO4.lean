/- addr.Of of four bytes; Class and Solicited at one address. -/
import Derived.Test.YtejddfgmfdpnfaaDoorFg
import Derived.Test.YtejddfgmfdpnfaaDoorLe
import Derived.Test.YtejddfgmfdpnfaaDoorBy
namespace Go.Proofs.YtejddfgmfdpnfaaDoor
open Go.Proofs Go.Shelf Go.RowKit
section
variable {w : World}
set_option maxHeartbeats 3200000 in
set_option maxRecDepth 100000 in
theorem of4 (g c : Nat) (bs : List Nat) (h4 : bs.length = 4) (hB : ∀ (i x : Nat), bs[i]? = some x → w.cell? ⟨g, i, none⟩ = some (.int .u8 (x : Int))) (hlt : ∀ u ∈ bs, u < 256) : Calls Tryd.prog 24 #[.slice (some ⟨g, 0, none⟩) 4 c] w fun e w' => e = .returned (.tuple #[adV ⟨false, 0, acc bs⟩, .int .i64 0]) ∧ Fr N0 w w' := by
  have HB := Lib.hid hB
  have HL := Lib.hid hlt
  have H4 := Lib.hid h4
  have hgl : g < w.heap.size := World.block_lt_of_cell? _ _ (HB.out 0 (bs[0]'(by rw [H4.out]; omega)) (List.getElem?_eq_getElem (by rw [H4.out]; omega)))
  have HGL := Lib.hid hgl
  clear hB hlt h4
  go_enter Tryd.func24, Tryd.ntmps24
  go_wp2_with fail
  have HF2 := Lib.hid (Fr.alloc (Fr.alloc (Fr.refl N0 w) (.cells #[.bool false, .int .u64 0, .int .u64 0] 25)) (.cells #[.bool false, .int .u64 0, .int .u64 0] 25))
  have HB2 := Lib.hid ((Blk.new w 25 #[.bool false, .int .u64 0, .int .u64 0]).alloc (.cells #[.bool false, .int .u64 0, .int .u64 0] 25))
  have HB5 := Lib.hid (Blk.alloc2 w (.cells #[.bool false, .int .u64 0, .int .u64 0] 25) 25 #[.bool false, .int .u64 0, .int .u64 0])
  generalize World.alloc (w.alloc _) _ = w2 at *
  obtain ⟨g5, hg5⟩ : ∃ g, g = w.heap.size + 1 := ⟨_, rfl⟩
  rw [← hg5] at HB5 ⊢
  obtain ⟨g2, hg2⟩ : ∃ g, g = w.heap.size := ⟨_, rfl⟩
  rw [← hg2] at HB2 ⊢
  have N25 := Lib.hid (show g2 ≠ g5 by omega)
  have NG5 := Lib.hid (show g ≠ g5 by omega)
  have HG5 := Lib.hid (show w.heap.size ≤ g5 by omega)
  have HG2 := Lib.hid (show w.heap.size ≤ g2 by omega)
  clear hg2 hg5 hgl
  go_loopw [22] (fun i wr => ∃ j : Nat, j ≤ 4 ∧ i = .int .i64 (j : Int) ∧ Blk wr g5 25 #[.bool false, .int .u64 0, .int .u64 (acc (bs.take j) : Int)] ∧ Fr (fun i => i = g5) w2 wr) (fun i _ => 5 - (RowKit.intOf i).toNat)
  case atStart => exact ⟨0, by omega, rfl, HB5.out, Fr.refl _ _⟩
  case round =>
    obtain ⟨j, hj, rfl, hb5, hF⟩ := hrel
    have B5 := Lib.hid hb5
    have G := Lib.hid hF
    have B2 := Lib.hid (HB2.out.fr hF N25.out)
    have BG : Hid (∀ (i x : Nat), bs[i]? = some x → wr.cell? ⟨g, i, none⟩ = some (.int .u8 (x : Int))) := Lib.hid fun i x h => (hF.cell (p := ⟨g, i, none⟩) (Nat.lt_of_lt_of_le HGL.out HF2.out.size) NG5.out).trans ((HF2.out.cell (p := ⟨g, i, none⟩) HGL.out id).trans (HB.out i x h))
    obtain ⟨z0, z1, z2⟩ := B5.out.c3
    clear hb5 hF
    by_cases hj4 : j < 4
    · have hjI : (j : Int) < 4 := by omega
      obtain ⟨u, hu⟩ : ∃ u, bs[j]? = some u := ⟨_, List.getElem?_eq_getElem (by rw [H4.out]; exact hj4)⟩
      have hu2 : u < 256 := HL.out u (List.mem_of_getElem? hu)
      have x0 := BG.out j u hu
      have fz := B5.out.frozen 2
      have hb := acc_lt _ (bs.take j) rfl (fun x hx => HL.out x (List.mem_of_mem_take hx))
      have hl : (bs.take j).length ≤ 3 := by rw [List.length_take]; omega
      have h3 : 256 ^ (bs.take j).length ≤ 256 ^ 3 := Nat.pow_le_pow_right (by omega) hl
      have hlo : acc (bs.take j) < 16777216 := by omega
      have HN := Lib.hid (show acc (bs.take (j + 1)) = shl8 (acc (bs.take j)) u by
        rw [List.take_add_one, hu, Option.toList_some, acc_snoc, shl8_small (by omega) hu2])
      clear hb hl h3 hu
      obtain ⟨lo, hlo2⟩ : ∃ lo, lo = acc (bs.take j) := ⟨_, rfl⟩
      rw [← hlo2] at z2 hlo HN B5
      have HLO := Lib.hid hlo2
      clear hlo2
      have HOR : Hid (bits .or .u64 ((lo : Int) * 256) (u : Int) = ((shl8 lo u : Nat) : Int)) := Lib.hid (by
        have h := shl8_bits (lo := lo) hu2
        have e : IntKind.u64.wrap ((lo : Int) * 256) = (lo : Int) * 256 := by rw [IntKind.wrap_u64]; omega
        rwa [e] at h)
      go_wp2_with fail
      refine ⟨⟨j + 1, by omega, by go_num, ?_, G.out.setCell (.inl rfl) _⟩, by simp [RowKit.intOf]; omega⟩
      rw [HOR.out, HN.out]
      exact B5.out.set_ 2 _
    · obtain rfl : j = 4 := by omega
      have hall : bs.take 4 = bs := List.take_of_length_le (by rw [H4.out]; exact Nat.le_refl _)
      rw [hall] at B5 z2
      go_wp2_with (refine wpList_store_row rfl 25 _ _ rfl g2 _ rfl rfl _ _ B2.out rfl rfl (by simp [Value.oneCell']) ?_)
      refine ret_cell2 rfl rfl (B2.out.row _) Tryd.underlying25 rfl ⟨rfl, Fr.setRow (HF2.out.step G.out fun i hi => .inr (hi ▸ HG5.out)) (.inr HG2.out) _⟩
set_option maxRecDepth 100000 in
theorem sol3 : Calls Tryd.prog 22 #[.agg #[.bool true, .int .u64 0, .int .u64 3]] w fun e w' => e = .returned (.agg #[.bool true, .int .u64 18375249429625044992, .int .u64 8573157379]) ∧ Fr N0 w w' := by
  go_enter Tryd.func22, Tryd.ntmps22
  go_wp2_with fail
  have e : bits .or .u64 8573157376 (bits .and .u64 3 16777215) = 8573157379 := by decide
  rw [e]
  exact ret_cell rfl rfl (Blk.alloc2 _ _ _ _) Tryd.underlying25 rfl ⟨rfl, ((Fr.refl _ _).alloc _).alloc _⟩
set_option maxRecDepth 100000 in
theorem cls1 : Calls Tryd.prog 20 #[.agg #[.bool true, .int .u64 0, .int .u64 1]] w fun e w' => e = .returned (.int .i64 1) ∧ Fr N0 w w' := by
  have e1 : ∀ (w : World), (binOp .eql 25 (.agg #[.bool true, .int .u64 0, .int .u64 1]) (.agg #[.bool true, .int .u64 0, .int .u64 0])).run Tryd.prog w = .ok (.bool false) w := eql_ad ⟨true, 0, 1⟩ ⟨true, 0, 0⟩
  have e2 : ∀ (w : World), (binOp .eql 25 (.agg #[.bool true, .int .u64 0, .int .u64 1]) (.agg #[.bool true, .int .u64 0, .int .u64 1])).run Tryd.prog w = .ok (.bool true) w := eql_ad ⟨true, 0, 1⟩ ⟨true, 0, 1⟩
  have q1 := fun X Y W => guard_ad .eql X Y ⟨true, 0, 1⟩ ⟨true, 0, 0⟩ W
  have q2 := fun X Y W => guard_ad .eql X Y ⟨true, 0, 1⟩ ⟨true, 0, 1⟩ W
  unfold adV at q1 q2
  have k : ∀ (w : World), Calls Tryd.prog 43 #[.agg #[.bool true, .int .u64 0, .int .u64 1]] w fun e w' => e = .returned (.int .i64 1) ∧ Fr N0 w w' := fun w => by
    go_enter Tryd.func43, Tryd.ntmps43
    go_wp2_with fail
    go_ret
    exact ⟨rfl, (Fr.refl _ _).alloc _⟩
  have k29 : ∀ (w : World), Calls Tryd.prog 18 #[.agg #[.bool true, .int .u64 0, .int .u64 1]] w fun e w' => e = .returned (.bool true) ∧ Fr N0 w w' := fun w => aval (w := w) ⟨true, 0, 1⟩
  clear e1 e2 q1 q2
  go_enter Tryd.func20, Tryd.ntmps20
  go_wp2_with fail
  have HA1 := Lib.hid (Blk.new w 25 #[Value.bool true, Value.int .u64 (0 : Int), Value.int .u64 (1 : Int)])
  have HF1 := Lib.hid (Fr.alloc (Fr.refl N0 w) (.cells #[Value.bool true, Value.int .u64 (0 : Int), Value.int .u64 (1 : Int)] 25))
  generalize w.alloc _ = w1 at *
  obtain ⟨g1, hg1⟩ : ∃ g1, g1 = w.heap.size := ⟨_, rfl⟩
  rw [← hg1] at HA1 ⊢
  have HG1 : Hid (w.heap.size ≤ g1) := Lib.hid (by omega)
  clear hg1
  have HZ1 : Hid (∀ W, Fr N0 w1 W → Blk W g1 25 #[Value.bool true, Value.int .u64 (0 : Int), Value.int .u64 (1 : Int)]) := Lib.hid fun W hf => HA1.out.fr hf id
  have F := Lib.hid (Fr.refl N0 w1)
  obtain ⟨z1_0, z1_1, z1_2⟩ := (HZ1.out _ F.out).c3
  go_wp2_with (first
    | (go_at_call 18; refine (k29 _).mono ?_; rintro e w2 ⟨rfl, hf⟩; have F := Lib.hid (F.out.trans hf); obtain ⟨z1_0, z1_1, z1_2⟩ := (HZ1.out _ F.out).c3)
    | (go_at_call 43; refine (k _).mono ?_; rintro e w3 ⟨rfl, hf⟩; have F := Lib.hid (F.out.trans hf); obtain ⟨z1_0, z1_1, z1_2⟩ := (HZ1.out _ F.out).c3))
  go_ret
  exact ⟨rfl, HF1.out.trans F.out⟩
end
end Go.Proofs.YtejddfgmfdpnfaaDoor
