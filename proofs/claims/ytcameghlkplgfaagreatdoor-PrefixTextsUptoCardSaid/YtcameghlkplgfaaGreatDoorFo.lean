/- addr.four, of a text that is four numbers. -/
import Derived.Test.YtcameghlkplgfaaGreatDoorNu
namespace Go.Proofs.YtcameghlkplgfaaGreatDoor
open Go.Proofs Go.Shelf Go.RowKit
def acc (l : List Nat) : Nat := l.foldl (fun a u => a * 256 + u) 0
/-- A text that spells a number of 0 to 255, plainly. -/
structure Dec (s : ByteArray) (u : Nat) : Prop where
  ne : s.toList.isEmpty = false
  le : s.size ≤ 3
  val : Lib.parseUintB 64 s.data.toList = .ok u
  lt : u < 256
  plain : s.size = 1 ∨ ∀ h : 0 < s.size, (s[0]'h).toNat ≠ 48
theorem acc_snoc (l : List Nat) (u : Nat) : acc (l ++ [u]) = acc l * 256 + u := by simp [acc]
theorem acc_lt : ∀ (n : Nat) (l : List Nat), l.length = n → (∀ u ∈ l, u < 256) → acc l < 256 ^ n
  | 0, l, hl, _ => by
    have : l = [] := List.length_eq_zero_iff.1 hl
    subst this
    simp [acc]
  | n + 1, l, hl, h => by
    rcases List.eq_nil_or_concat l with rfl | ⟨r, u, rfl⟩
    · simp at hl
    · rw [List.concat_eq_append] at hl h ⊢
      rw [acc_snoc]
      have h1 := acc_lt n r (by simpa using hl) fun u hu => h u (by simp [hu])
      have h2 := h u (by simp)
      rw [Nat.pow_succ]
      omega
theorem or_byte {x u : Nat} (hx : x < 72057594037927936) (hu : u < 256) : bits .or .u64 (IntKind.u64.wrap ((x : Int) * 256)) (u : Int) = ((x * 256 + u : Nat) : Int) := by
  rw [IntWalk.u64_in _ (by omega), show ((x : Int) * 256) = ((x * 256 : Nat) : Int) by omega, bits_or_u64_nat _ _ (by omega) (by omega)]
  congr 1
  rw [Nat.mul_comm, show (256 : Nat) = 2 ^ 8 from rfl, Nat.two_pow_add_eq_or_of_lt (show u < 2 ^ 8 from hu)]
section
variable {w : World}
set_option maxHeartbeats 1600000 in
set_option maxRecDepth 100000 in
theorem four_ok (s : ByteArray) (m : Int) (hm : w.cell? ⟨0, 0, none⟩ = some (.int .i64 m)) (hs : s.size < 4294967281) (ts : List ByteArray) (us : List Nat) (hts : Lib.splitB ⟨#[46]⟩ 0 (Lib.countB s ⟨#[46]⟩) s = ts) (hn : ts.length = 4) (hu : us.length = 4)
    (hd : ∀ (j : Nat) t u, ts[j]? = some t → us[j]? = some u → Dec t u) : Calls Tryz.prog 34 #[.string s] w fun e w' => e = .returned (.tuple #[adV ⟨false, 0, acc us⟩, .bool true]) ∧ Fr N0 w w' := by
  have hc4 : Lib.countB s ⟨#[46]⟩ + 1 = 4 := by
    have := Lib.splitB_all ⟨#[46]⟩ (by decide) 0 _ s rfl
    rw [hts] at this
    omega
  have i9 : (Tryz.prog.info? 9).map (fun i => (i.zero, i.size, i.bytes)) = some (some (.string ByteArray.empty), 1, 16) := by kernel_rfl
  have k65 : ∀ W : World, W.cell? ⟨0, 0, none⟩ = some (.int .i64 m) → Calls Tryz.prog 55 #[.string s, .string ⟨#[46]⟩] W fun e w' => e = .returned (.slice (some ⟨W.heap.size, 0, none⟩) 4 4) ∧ w' = W.alloc (.cells (ts.map Value.string).toArray 9) := by
    intro W hW
    have := Any.strings_Split Tryz.splitL i9 s ⟨#[46]⟩ m W hs hW (by decide)
    rw [hts, hc4] at this
    exact this
  have HD := Lib.hid hd
  have HN := Lib.hid hn
  have HU := Lib.hid hu
  clear hts hd hn hu hc4
  go_enter Tryz.func34, Tryz.ntmps34
  go_wp2_with fail
  have HF0 := Lib.hid (Fr.alloc (Fr.refl N0 w) (.cells #[.bool false, .int .u64 0, .int .u64 0] 24))
  have hlt0 := World.block_lt_of_cell? _ _ hm
  have HM := Lib.hid ((HF0.out.cell hlt0 id).trans hm)
  have HA2 := Lib.hid (Blk.new w 24 #[.bool false, .int .u64 0, .int .u64 0])
  generalize w.alloc _ = w1 at *
  obtain ⟨g2, hg2⟩ : ∃ g, g = w.heap.size := ⟨_, rfl⟩
  rw [← hg2] at HA2 ⊢
  have HG2 := Lib.hid (Nat.le_of_eq hg2.symm)
  clear hg2 hm hlt0
  go_wp2_with (go_at_call 55; refine (k65 _ HM.out).mono ?_; rintro e w2 ⟨rfl, rfl⟩)
  have HF2 := Lib.hid (Fr.alloc (Fr.alloc HF0.out (.cells (ts.map Value.string).toArray 9)) (.cells #[.bool false, .int .u64 0, .int .u64 0] 24))
  have HB2 := Lib.hid ((HA2.out.alloc (.cells (ts.map Value.string).toArray 9)).alloc (.cells #[.bool false, .int .u64 0, .int .u64 0] 24))
  have HB4 := Lib.hid ((Blk.new w1 9 (ts.map Value.string).toArray).alloc (.cells #[.bool false, .int .u64 0, .int .u64 0] 24))
  have HB5 := Lib.hid (Blk.alloc2 w1 (.cells (ts.map Value.string).toArray 9) 24 #[.bool false, .int .u64 0, .int .u64 0])
  have hlt2 := HA2.out.lt
  generalize World.alloc (w1.alloc _) _ = w2 at *
  obtain ⟨g5, hg5⟩ : ∃ g, g = w1.heap.size + 1 := ⟨_, rfl⟩
  rw [← hg5] at HB5 ⊢
  obtain ⟨g4, hg4⟩ : ∃ g, g = w1.heap.size := ⟨_, rfl⟩
  rw [← hg4] at HB4 ⊢
  have N25 := Lib.hid (show g2 ≠ g5 by omega)
  have N45 := Lib.hid (show g4 ≠ g5 by omega)
  have HG5 := Lib.hid (show w.heap.size ≤ g5 by have := HF0.out.size; omega)
  clear hg4 hg5 hlt2
  go_loopw [15] (fun i wr => ∃ j : Nat, j ≤ 4 ∧ i = .int .i64 (j : Int) ∧ Blk wr g5 24 #[.bool false, .int .u64 0, .int .u64 (acc (us.take j) : Int)] ∧ Fr (fun i => i = g5) w2 wr) (fun i _ => 5 - (RowKit.intOf i).toNat)
  case atStart => exact ⟨0, by omega, rfl, HB5.out, Fr.refl _ _⟩
  case round =>
    obtain ⟨j, hj, rfl, hb5, hF⟩ := hrel
    have B5 := Lib.hid hb5
    have G := Lib.hid hF
    clear hb5 hF
    by_cases hj4 : j < 4
    · have hjI : (j : Int) < 4 := by omega
      obtain ⟨t, ht⟩ : ∃ t, ts[j]? = some t := ⟨_, List.getElem?_eq_getElem (by rw [HN.out]; exact hj4)⟩
      obtain ⟨u, hu⟩ : ∃ u, us[j]? = some u := ⟨_, List.getElem?_eq_getElem (by rw [HU.out]; exact hj4)⟩
      have hD := HD.out j t u ht hu
      have x0 := (HB4.out.fr G.out N45.out).cell j
      rw [List.getElem?_toArray, List.getElem?_map, ht] at x0
      replace x0 : wr.cell? ⟨g4, j, none⟩ = some (.string t) := x0
      obtain ⟨z0, z1, z2⟩ := B5.out.c3
      have k66 := fun W => numb_ok (w := W) t u hD.ne hD.le hD.val
      have hA : acc (us.take (j + 1)) = acc (us.take j) * 256 + u := by
        rw [List.take_add_one, hu]; simp [acc]
      have hlt := acc_lt j (us.take j) (by rw [List.length_take, HU.out]; omega) (fun v hv => by
        obtain ⟨k, hk⟩ := List.getElem?_of_mem hv
        have hk4 : k < j := by
          have := (List.getElem?_eq_some_iff.1 hk).1
          rw [List.length_take] at this
          omega
        rw [List.getElem?_take_of_lt hk4] at hk
        exact (HD.out k _ v (List.getElem?_eq_getElem (by rw [HN.out]; omega)) hk).lt)
      have hlt' : acc (us.take j) < 72057594037927936 := Nat.lt_of_lt_of_le hlt (Nat.le_trans (Nat.pow_le_pow_right (by omega) (show j ≤ 4 by omega)) (by decide))
      have HOR := Lib.hid (or_byte hlt' hD.lt)
      clear hlt hlt'
      have HA := Lib.hid hA
      have hu256 := hD.lt
      have hb255 : decide (255 < (u : Int)) = false := by simp; omega
      have hp := hD.plain
      clear ht hu hA
      by_cases ht1 : 1 < t.size
      · have ht0 : 0 < t.size := by omega
        have hq : (t[0]'ht0).toNat ≠ 48 := by
          rcases hp with hp | hp
          · omega
          · exact hp ht0
        have h0t : (0 : Int) < (t.size : Int) := by omega
        have hd1 : (1 : Int) < (t.size : Int) := by omega
        have hq' : (((t[0]'ht0).toNat : Int) == 48) = false := by simp; omega
        clear hp
        go_wp2_with (go_at_call 56; refine (k66 _).mono ?_; rintro e w6 ⟨rfl, hf6⟩; have B6 := Lib.hid (B5.out.fr hf6 id); have G6 := Lib.hid (G.out.trans (hf6.mono fun _ _ h => h.elim)); obtain ⟨y0, y1, y2⟩ := B6.out.c3; have fz := B6.out.frozen 2)
        go_roundw
        case rel =>
          have HB : Blk (w6.setCell ⟨g5, 2, none⟩ (Value.int IntKind.u64 (bits BinOp.or IntKind.u64 (IntKind.u64.wrap (↑(acc (List.take j us)) * 256)) ↑u))) g5 24 #[.bool false, .int .u64 0, .int .u64 (acc (us.take (j + 1)) : Int)] := by
            rw [HA.out, HOR.out]
            exact B6.out.set_ 2 _
          exact ⟨j + 1, by omega, by go_num, HB, G6.out.setCell (.inl rfl) _⟩
        case measure => simp [RowKit.intOf]; omega
      · have hd1 : decide (1 < (t.size : Int)) = false := by simp; omega
        clear hp
        go_wp2_with (go_at_call 56; refine (k66 _).mono ?_; rintro e w6 ⟨rfl, hf6⟩; have B6 := Lib.hid (B5.out.fr hf6 id); have G6 := Lib.hid (G.out.trans (hf6.mono fun _ _ h => h.elim)); obtain ⟨y0, y1, y2⟩ := B6.out.c3; have fz := B6.out.frozen 2)
        go_roundw
        case rel =>
          have HB : Blk (w6.setCell ⟨g5, 2, none⟩ (Value.int IntKind.u64 (bits BinOp.or IntKind.u64 (IntKind.u64.wrap (↑(acc (List.take j us)) * 256)) ↑u))) g5 24 #[.bool false, .int .u64 0, .int .u64 (acc (us.take (j + 1)) : Int)] := by
            rw [HA.out, HOR.out]
            exact B6.out.set_ 2 _
          exact ⟨j + 1, by omega, by go_num, HB, G6.out.setCell (.inl rfl) _⟩
        case measure => simp [RowKit.intOf]; omega
    · have hjI : ¬ (j : Int) < 4 := by omega
      obtain rfl : j = 4 := by omega
      have B2 := Lib.hid (HB2.out.fr G.out N25.out)
      obtain ⟨z0, z1, z2⟩ := B5.out.c3
      go_wp2_with (refine wpList_store_row rfl 24 _ _ rfl g2 _ rfl rfl _ _ B2.out rfl rfl (by simp [Value.oneCell']) ?_)
      refine ret_cell2 rfl rfl (B2.out.row _) Tryz.underlying24 rfl ⟨?_, Fr.setRow (HF2.out.step G.out fun i hi => .inr (hi ▸ HG5.out)) (.inr HG2.out) _⟩
      rw [List.take_of_length_le (by rw [HU.out]; exact Nat.le_refl _)]
      rfl
end
end Go.Proofs.YtcameghlkplgfaaGreatDoor
