/- addr.texts: groups as a text. -/
import Derived.Test.YtndjijadalkidaaDoorFx
import Derived.Test.YtndjijadalkidaaDoorPi
namespace Go.Proofs.YtndjijadalkidaaDoor
open Go.Proofs Go.Shelf Go.RowKit
/-- The texts of the first groups, the others empty. -/
def txs (us : List Nat) (j : Nat) : List ByteArray := (us.take j).map (fun u => (⟨(hxT u).toArray⟩ : ByteArray)) ++ List.replicate (us.length - j) ByteArray.empty
def txG (us : List Nat) : ByteArray := ⟨(Lib.join (us.map hxT) [58]).toArray⟩
theorem txs_len {us : List Nat} {j : Nat} (hj : j ≤ us.length) : (txs us j).length = us.length := by simp [txs]; omega
theorem txs_at {us : List Nat} {j : Nat} (hj : j < us.length) : (txs us j)[j]? = some ByteArray.empty := by
  unfold txs
  rw [List.getElem?_append_right (by rw [List.length_map, List.length_take]; omega), List.getElem?_replicate, if_pos (by simp; omega)]
theorem txs_set {us : List Nat} {j u : Nat} (hu : us[j]? = some u) : (txs us j).set j ⟨(hxT u).toArray⟩ = txs us (j + 1) := by
  have hj : j < us.length := (List.getElem?_eq_some_iff.1 hu).1
  unfold txs
  rw [List.set_append_right _ _ (by rw [List.length_map, List.length_take]; omega), List.take_add_one, hu, List.map_append, List.append_assoc]
  congr 1
  have e : us.length - j = (us.length - (j + 1)) + 1 := by omega
  rw [e, List.length_map, List.length_take, Nat.min_eq_left (by omega), Nat.sub_self, List.replicate_succ]
  rfl
theorem txs_all (us : List Nat) : txs us us.length = us.map fun u => (⟨(hxT u).toArray⟩ : ByteArray) := by simp [txs]
theorem join_le : ∀ (us : List Nat), (Lib.join (us.map hxT) [58]).length ≤ 5 * us.length
  | [] => by simp [Lib.join]
  | [u] => by have := nh_le u; simp [Lib.join, hxT_len]; omega
  | u :: v :: r => by
    have h1 := join_le (v :: r)
    have h2 := nh_le u
    simp only [List.map_cons, Lib.join, List.intercalate, List.intersperse, List.flatten_cons, List.length_append, List.length_cons, List.length_nil, hxT_len] at h1 ⊢
    omega
theorem mk0_ (W : World) : (Instr.makeSlice 63 (.int .i64 0) (.int .i64 0)).run Tryd.prog W = .ok (.slice (some ⟨W.heap.size, 0, none⟩) 0 0) (W.alloc (.cells #[] 9)) := by kernel_rfl
theorem mk1_ (W : World) : (Instr.makeSlice 63 (.int .i64 1) (.int .i64 1)).run Tryd.prog W = .ok (.slice (some ⟨W.heap.size, 0, none⟩) 1 1) (W.alloc (.cells #[.string ByteArray.empty] 9)) := by kernel_rfl
theorem mk2_ (W : World) : (Instr.makeSlice 63 (.int .i64 2) (.int .i64 2)).run Tryd.prog W = .ok (.slice (some ⟨W.heap.size, 0, none⟩) 2 2) (W.alloc (.cells #[.string ByteArray.empty, .string ByteArray.empty] 9)) := by kernel_rfl
theorem mk3_ (W : World) : (Instr.makeSlice 63 (.int .i64 3) (.int .i64 3)).run Tryd.prog W = .ok (.slice (some ⟨W.heap.size, 0, none⟩) 3 3) (W.alloc (.cells #[.string ByteArray.empty, .string ByteArray.empty, .string ByteArray.empty] 9)) := by kernel_rfl
theorem mk4_ (W : World) : (Instr.makeSlice 63 (.int .i64 4) (.int .i64 4)).run Tryd.prog W = .ok (.slice (some ⟨W.heap.size, 0, none⟩) 4 4) (W.alloc (.cells #[.string ByteArray.empty, .string ByteArray.empty, .string ByteArray.empty, .string ByteArray.empty] 9)) := by kernel_rfl
theorem mk5_ (W : World) : (Instr.makeSlice 63 (.int .i64 5) (.int .i64 5)).run Tryd.prog W = .ok (.slice (some ⟨W.heap.size, 0, none⟩) 5 5) (W.alloc (.cells #[.string ByteArray.empty, .string ByteArray.empty, .string ByteArray.empty, .string ByteArray.empty, .string ByteArray.empty] 9)) := by kernel_rfl
theorem mk6_ (W : World) : (Instr.makeSlice 63 (.int .i64 6) (.int .i64 6)).run Tryd.prog W = .ok (.slice (some ⟨W.heap.size, 0, none⟩) 6 6) (W.alloc (.cells #[.string ByteArray.empty, .string ByteArray.empty, .string ByteArray.empty, .string ByteArray.empty, .string ByteArray.empty, .string ByteArray.empty] 9)) := by kernel_rfl
theorem mk7_ (W : World) : (Instr.makeSlice 63 (.int .i64 7) (.int .i64 7)).run Tryd.prog W = .ok (.slice (some ⟨W.heap.size, 0, none⟩) 7 7) (W.alloc (.cells #[.string ByteArray.empty, .string ByteArray.empty, .string ByteArray.empty, .string ByteArray.empty, .string ByteArray.empty, .string ByteArray.empty, .string ByteArray.empty] 9)) := by kernel_rfl
theorem mk8_ (W : World) : (Instr.makeSlice 63 (.int .i64 8) (.int .i64 8)).run Tryd.prog W = .ok (.slice (some ⟨W.heap.size, 0, none⟩) 8 8) (W.alloc (.cells #[.string ByteArray.empty, .string ByteArray.empty, .string ByteArray.empty, .string ByteArray.empty, .string ByteArray.empty, .string ByteArray.empty, .string ByteArray.empty, .string ByteArray.empty] 9)) := by kernel_rfl
section
variable {w : World}
set_option maxHeartbeats 3200000 in
set_option maxRecDepth 100000 in
theorem texts_ (g o n c : Nat) (tg : TypeId) (A : Array Value) (us : List Nat) (hn : us.length = n) (hn8 : n ≤ 8) (hB : Blk w g tg A) (hA : ∀ k (u : Nat), us[k]? = some u → A[o + k]? = some (.int .u16 (u : Int))) (hlt : ∀ u ∈ us, u < 65536) (hd : D4 w) :
    Calls Tryd.prog 53 #[.slice (some ⟨g, o, none⟩) n c] w fun e w' => e = .returned (.string (txG us)) ∧ Fr N0 w w' := by
  have hmk : ∀ W, (Instr.makeSlice 63 (.int .i64 n) (.int .i64 n)).run Tryd.prog W = .ok (.slice (some ⟨W.heap.size, 0, none⟩) n n) (W.alloc (.cells ((txs us 0).map Value.string).toArray 9)) := by
    have e : ((txs us 0).map Value.string).toArray = (List.replicate n (Value.string ByteArray.empty)).toArray := by simp [txs, hn]
    rw [e]
    match n, hn8 with
    | 0, _ => exact mk0_
    | 1, _ => exact mk1_
    | 2, _ => exact mk2_
    | 3, _ => exact mk3_
    | 4, _ => exact mk4_
    | 5, _ => exact mk5_
    | 6, _ => exact mk6_
    | 7, _ => exact mk7_
    | 8, _ => exact mk8_
  have HB := Lib.hid hB
  have HA := Lib.hid hA
  have HL := Lib.hid hlt
  have HN := Lib.hid hn
  have HD := Lib.hid hd
  have hgl := hB.lt
  clear hB hA hlt hn hd
  go_enter Tryd.func53, Tryd.ntmps53
  go_wp2_with fail
  have HF1 := Lib.hid (Fr.alloc (Fr.refl N0 w) (.cells ((txs us 0).map Value.string).toArray 9))
  have HL1 := Lib.hid (Blk.new w 9 ((txs us 0).map Value.string).toArray)
  generalize w.alloc _ = w1 at *
  obtain ⟨g1, hg1⟩ : ∃ g, g = w.heap.size := ⟨_, rfl⟩
  rw [← hg1] at HL1 ⊢
  have NG := Lib.hid (show g ≠ g1 by omega)
  have HG := Lib.hid (Nat.le_of_eq hg1.symm)
  clear hg1 hgl hmk
  go_loopw [11] (fun i wr => ∃ j : Nat, j ≤ n ∧ i = .int .i64 (j : Int) ∧ Blk wr g1 9 ((txs us j).map Value.string).toArray ∧ Fr (fun i => i = g1) w1 wr) (fun i _ => n + 1 - (intOf i).toNat)
  case atStart => exact ⟨0, by omega, rfl, HL1.out, Fr.refl _ _⟩
  case round =>
    obtain ⟨j, hj, rfl, hb, hF⟩ := hrel
    have B := Lib.hid hb
    have G := Lib.hid hF
    have GW := Lib.hid (HF1.out.step hF fun i hi => .inr (hi ▸ HG.out))
    have BG := Lib.hid ((HB.out.fr HF1.out id).fr hF NG.out)
    clear hb hF
    by_cases hjn : j < n
    · have hjI : (j : Int) < n := by omega
      obtain ⟨u, hu⟩ : ∃ u, us[j]? = some u := ⟨_, List.getElem?_eq_getElem (by rw [HN.out]; exact hjn)⟩
      have hu6 : u < 65536 := HL.out u (List.mem_of_getElem? hu)
      have x0 := BG.out.cell (o + j)
      rw [HA.out j u hu] at x0
      have k := fun (W : World) (hW : Fr N0 w W) => fu16 (w := W) u hu6 (HD.out.fr hW)
      have HK := Lib.hid k
      have HS := Lib.hid (txs_set hu)
      have HE := Lib.hid (txs_at (us := us) (j := j) (by rw [HN.out]; exact hjn))
      clear k hu
      go_wp2_with (go_at_call 49; refine (HK.out _ GW.out).mono ?_; rintro e w5 ⟨rfl, hf5⟩; have B5 := Lib.hid (B.out.fr hf5 id); have y := B5.out.cell j; rw [List.getElem?_toArray, List.getElem?_map, HE.out] at y; replace y : w5.cell? ⟨g1, j, none⟩ = some (.string ByteArray.empty) := y; have fz := B5.out.frozen j)
      go_roundw
      case rel =>
        have HBB : Blk (w5.setCell ⟨g1, j, none⟩ (.string ⟨(hxT u).toArray⟩)) g1 9 ((txs us (j + 1)).map Value.string).toArray := by
          have := B5.out.set_ j (.string ⟨(hxT u).toArray⟩)
          rw [List.setIfInBounds_toArray, ← List.map_set, HS.out] at this
          exact this
        exact ⟨j + 1, by omega, by go_num, HBB, (G.out.trans (hf5.mono fun _ _ h => h.elim)).setCell (.inl rfl) _⟩
      case measure => simp [RowKit.intOf]; omega
    · obtain rfl : j = n := by omega
      have hall : txs us j = us.map fun u => (⟨(hxT u).toArray⟩ : ByteArray) := by rw [← HN.out]; exact txs_all us
      rw [hall] at B
      have hlen : (us.map fun u => (⟨(hxT u).toArray⟩ : ByteArray)).length = j := by rw [List.length_map, HN.out]
      have hmm : (us.map fun u => (⟨(hxT u).toArray⟩ : ByteArray)).map (·.data.toList) = us.map hxT := by simp [List.map_map, Function.comp_def]
      have hJ := Any.strings_Join Tryd.joinL Tryd.joinX g1 0 j (us.map fun u => (⟨(hxT u).toArray⟩ : ByteArray)) ⟨#[58]⟩ wr (fun k x hx => by
        have := B.out.cell (0 + k)
        rw [Nat.zero_add, List.getElem?_toArray, List.getElem?_map, hx] at this
        rw [Nat.zero_add]
        exact this) B.out.lt (by rw [hlen]; omega) (by rw [hlen]; omega) (by
          rw [hmm]
          have := join_le us
          have e : (⟨#[58]⟩ : ByteArray).data.toList = [58] := rfl
          rw [e]
          have := HN.out
          omega)
      rw [hlen, hmm] at hJ
      clear hall hlen hmm
      go_wp2_with (go_at_call 50; refine hJ.mono ?_; rintro e w6 ⟨rfl, hf6⟩)
      go_ret
      exact ⟨rfl, GW.out.trans (Fr.of_below hf6)⟩
end
end Go.Proofs.YtndjijadalkidaaDoor
