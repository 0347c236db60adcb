/- addr.Print of four bytes. -/
import Derived.Test.YtndjijadalkidaaDoorFu
import Derived.Test.YtndjijadalkidaaDoorOwn
namespace Go.Proofs.YtndjijadalkidaaDoor
open Go.Proofs Go.Shelf Go.RowKit
theorem Tryd.joinX : Builder.Extra Tryd.prog Tryd.joinL_ren where
  sizeBuilder := by kernel_rfl
  liesBuilder := by kernel_rfl
  t5 := Tryd.underlying5
  a5 := Tryd.isAgg5
  z5 := Tryd.sizeOf5
  v5 := Tryd.zeroValue5
  infoByte := by kernel_rfl
  cellsByte := by kernel_rfl
  sizeByte := by kernel_rfl
  neB5 := by decide
/-- The texts of the first bytes, the others empty. -/
def tx4 (l j : Nat) : List ByteArray := (List.range 4).map fun k => if k < j then ⟨(Lib.decDigits (byteA ⟨false, 0, l⟩ k)).toArray⟩ else ByteArray.empty
def txt4 (l : Nat) : ByteArray := ⟨(Lib.join ((tx4 l 4).map (·.data.toList)) [46]).toArray⟩
theorem and255 {x : Nat} (hx : x < 18446744073709551616) : bits .and .u64 (x : Int) 255 = ((x % 256 : Nat) : Int) := by
  show IntKind.u64.wrap ((BitVec.ofInt 64 (x : Int) &&& BitVec.ofInt 64 255).toNat : Int) = _
  have h2 : (BitVec.ofInt 64 (255 : Int)).toNat = 2 ^ 8 - 1 := by decide
  rw [BitVec.toNat_and, h2, Nat.and_two_pow_sub_one_eq_mod, BitVec.ofInt_natCast, BitVec.toNat_ofNat, Nat.mod_eq_of_lt hx, IntKind.wrap_u64]
  have : x % 2 ^ 8 < 256 := Nat.mod_lt _ (by omega)
  have e : x % 2 ^ 8 = x % 256 := rfl
  omega
theorem byte_and {l j : Nat} (hl : l < 4294967296) : bits .and .u64 ((l : Int) / 2 ^ (24 - 8 * j)) 255 = ((byteA ⟨false, 0, l⟩ j : Nat) : Int) := by
  have e : ((l : Int) / 2 ^ (24 - 8 * j)) = ((l / 2 ^ (24 - 8 * j) : Nat) : Int) := by simp
  rw [e, and255 (Nat.lt_of_le_of_lt (Nat.div_le_self _ _) (by omega))]
  rfl
theorem tx4_len (l j : Nat) : (tx4 l j).length = 4 := by simp [tx4]
theorem tx4_at {l j k : Nat} (hk : k < 4) : (tx4 l j)[k]? = some (if k < j then ⟨(Lib.decDigits (byteA ⟨false, 0, l⟩ k)).toArray⟩ else ByteArray.empty) := by
  unfold tx4
  rw [List.getElem?_map, List.getElem?_range hk]
  rfl
theorem tx4_set {l j : Nat} (hj : j < 4) : (tx4 l j).set j ⟨(Lib.decDigits (byteA ⟨false, 0, l⟩ j)).toArray⟩ = tx4 l (j + 1) := by
  apply List.ext_getElem? 
  intro k
  by_cases hk : k < 4
  · rw [List.getElem?_set, tx4_at hk, tx4_len]
    by_cases e : j = k
    · subst e
      rw [if_pos rfl, if_pos hj, tx4_at hk, if_pos (by omega)]
    · rw [if_neg e, tx4_at hk]
      by_cases h2 : k < j
      · rw [if_pos h2, if_pos (by omega)]
      · rw [if_neg h2, if_neg (by omega)]
  · rw [List.getElem?_eq_none (by simp [tx4]; omega), List.getElem?_eq_none (by simp [tx4]; omega)]
theorem dd_le3 {x : Nat} (h : x < 256) : (Lib.decDigits x).length ≤ 3 := by
  rw [Lib.decDigits_length]
  by_cases h1 : x < 10
  · rw [Lib.nDigits_small h1]; omega
  · rw [Lib.nDigits_big h1]
    by_cases h2 : x / 10 < 10
    · rw [Lib.nDigits_small h2]; omega
    · rw [Lib.nDigits_big h2, Lib.nDigits_small (by omega)]; omega
section
variable {w : World}
set_option maxHeartbeats 1600000 in
set_option maxRecDepth 100000 in
theorem prt4 (l : Nat) (hl : l < 4294967296) (htab : T10 w) : Calls Tryd.prog 38 #[adV ⟨false, 0, l⟩] w fun e w' => e = .returned (.string (txt4 l)) ∧ Fr N0 w w' := by
  have k29 : ∀ (w : World), Calls Tryd.prog 29 #[.agg #[.bool false, .int .u64 0, .int .u64 (l : Int)]] w fun e w' => e = .returned (.bool true) ∧ Fr N0 w w' := fun w => by
    have := aval (w := w) ⟨false, 0, l⟩
    rwa [show validA ⟨false, 0, l⟩ = true by simp [validA, hl]] at this
  have hmk : ∀ w, (Instr.makeSlice 63 (.int .i64 4) (.int .i64 4)).run Tryd.prog w = .ok (.slice (some ⟨w.heap.size, 0, none⟩) 4 4) (w.alloc (.cells #[.string ByteArray.empty, .string ByteArray.empty, .string ByteArray.empty, .string ByteArray.empty] 9)) := fun _ => by kernel_rfl
  go_enter Tryd.func38, Tryd.ntmps38
  unfold adV
  go_wp2_with fail
  have HA1 := Lib.hid (Blk.new w 24 #[Value.bool false, Value.int .u64 (0 : Int), Value.int .u64 (l : Int)])
  have HF1 := Lib.hid (Fr.alloc (Fr.refl N0 w) (.cells #[Value.bool false, Value.int .u64 (0 : Int), Value.int .u64 (l : Int)] 24))
  generalize w.alloc _ = w1 at *
  obtain ⟨g1, hg1⟩ : ∃ g1, g1 = w.heap.size := ⟨_, rfl⟩
  rw [← hg1] at HA1 ⊢
  have HG1 : Hid (w.heap.size ≤ g1) := Lib.hid (by omega)
  clear hg1
  have HZ1 : Hid (∀ W, Fr N0 w1 W → Blk W g1 24 #[Value.bool false, Value.int .u64 (0 : Int), Value.int .u64 (l : Int)]) := Lib.hid fun W hf => HA1.out.fr hf id
  have F := Lib.hid (Fr.refl N0 w1)
  obtain ⟨z1_0, z1_1, z1_2⟩ := (HZ1.out _ F.out).c3
  go_wp2_with (first
    | (go_at_call 29; refine (k29 _).mono ?_; rintro e w2 ⟨rfl, hf⟩; have F := Lib.hid (F.out.trans hf); obtain ⟨z1_0, z1_1, z1_2⟩ := (HZ1.out _ F.out).c3))
  have HF2 := Lib.hid (HF1.out.trans F.out)
  have HT2 := Lib.hid (htab.fr HF2.out)
  have HL := Lib.hid (Blk.new w2 9 #[.string ByteArray.empty, .string ByteArray.empty, .string ByteArray.empty, .string ByteArray.empty])
  have HF3 := Lib.hid (Fr.alloc (Fr.refl N0 w2) (.cells #[.string ByteArray.empty, .string ByteArray.empty, .string ByteArray.empty, .string ByteArray.empty] 9))
  generalize w2.alloc _ = w3 at *
  generalize hg3 : w2.heap.size = g3 at *
  have N31 := Lib.hid (show g1 ≠ g3 from by have := (HZ1.out _ F.out).lt; omega)
  have HG3 := Lib.hid (show w2.heap.size ≤ g3 from by omega)
  have HZ := Lib.hid (HZ1.out w3 (F.out.trans HF3.out))
  have HT0 := Lib.hid htab
  clear htab hmk z1_0 z1_1 z1_2 hg3 hf HZ1
  go_loopw [17] (fun i wr => ∃ j : Nat, j ≤ 4 ∧ i = .int .i64 (j : Int) ∧ Blk wr g3 9 ((tx4 l j).map Value.string).toArray ∧ Fr (fun i => i = g3) w3 wr) (fun i _ => 5 - (intOf i).toNat)
  case atStart => exact ⟨0, by omega, rfl, HL.out, Fr.refl _ _⟩
  case round =>
    obtain ⟨j, hj, rfl, hb, hF⟩ := hrel
    have B := Lib.hid hb
    have G := Lib.hid hF
    have HA := Lib.hid (HZ.out.fr hF N31.out)
    have GW := Lib.hid (((HF2.out.trans HF3.out).step hF fun i hi => .inr (hi ▸ Nat.le_trans HF2.out.size HG3.out)) : Fr N0 w wr)
    obtain ⟨z0, z1, z2⟩ := HA.out.c3
    clear hb hF
    by_cases hj4 : j < 4
    · have hjI : (j : Int) < 4 := by omega
      have HX := Lib.hid (byte_and (j := j) hl)
      have HK := Lib.hid fun (W : World) (hW : Fr N0 w W) => fu10 (w := W) (byteA ⟨false, 0, l⟩ j) (by have := byteA_lt ⟨false, 0, l⟩ j; omega) (HT0.out.fr hW)
      go_wp2_with (go_at_call 49; rw [HX.out]; refine (HK.out _ GW.out).mono ?_; rintro e w5 ⟨rfl, hf5⟩; have B5 := Lib.hid (B.out.fr hf5 id); have y := B5.out.cell j; rw [List.getElem?_toArray, List.getElem?_map, tx4_at hj4, if_neg (Nat.lt_irrefl j)] at y; replace y : w5.cell? ⟨g3, j, none⟩ = some (.string ByteArray.empty) := y; have fz := B5.out.frozen j)
      go_roundw
      case rel =>
        have HB : Blk (w5.setCell ⟨g3, j, none⟩ (.string ⟨(Lib.decDigits (byteA ⟨false, 0, l⟩ j)).toArray⟩)) g3 9 ((tx4 l (j + 1)).map Value.string).toArray := by
          have := B5.out.set_ j (.string ⟨(Lib.decDigits (byteA ⟨false, 0, l⟩ j)).toArray⟩)
          rw [List.setIfInBounds_toArray, ← List.map_set, tx4_set hj4] at this
          exact this
        exact ⟨j + 1, by omega, by go_num, HB, (G.out.trans (hf5.mono fun _ _ h => h.elim)).setCell (.inl rfl) _⟩
      case measure => simp [RowKit.intOf]; omega
    · obtain rfl : j = 4 := by omega
      have hJ := Any.strings_Join Tryd.joinL Tryd.joinX g3 0 4 (tx4 l 4) ⟨#[46]⟩ wr (fun j x hx => by
        have := B.out.cell (0 + j)
        rw [Nat.zero_add, List.getElem?_toArray, List.getElem?_map, hx] at this
        rw [Nat.zero_add]
        exact this) B.out.lt (by rw [tx4_len]; omega) (by rw [tx4_len]; omega) (by
          have h : ∀ j, (Lib.decDigits (byteA ⟨false, 0, l⟩ j)).length ≤ 3 := fun j => dd_le3 (byteA_lt _ _)
          have h0 := h 0
          have h1 := h 1
          have h2 := h 2
          have h3 := h 3
          simp [tx4, List.range_succ, Lib.join]
          omega)
      rw [tx4_len] at hJ
      go_wp2_with (go_at_call 50; refine hJ.mono ?_; rintro e w6 ⟨rfl, hf6⟩)
      go_ret
      exact ⟨rfl, GW.out.trans (Fr.of_below hf6)⟩
end
end Go.Proofs.YtndjijadalkidaaDoor
