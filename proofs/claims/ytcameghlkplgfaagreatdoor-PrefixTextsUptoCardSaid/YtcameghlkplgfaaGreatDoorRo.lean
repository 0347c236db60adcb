/- The document's address out of its bits. -/
import Derived.Test.YtcameghlkplgfaaGreatDoorRi
import Derived.Test.YtcameghlkplgfaaGreatDoorPc
namespace Go.Proofs.YtcameghlkplgfaaGreatDoor
open Go.RowKit
def i64v (x : Nat) : Value := .int .i64 (x : Int)
def bitsA (b : Ad) : List Nat := (List.range (widthA b)).map fun (i : Nat) => bitA b (i : Int)
theorem bitsA_len (b : Ad) : (bitsA b).length = widthA b := by simp [bitsA]
theorem bitsA_at {b : Ad} {i : Nat} (h : i < widthA b) : (bitsA b)[i]? = some (bitA b (i : Int)) := by
  unfold bitsA
  rw [List.getElem?_map, List.getElem?_range h]
  rfl
theorem ofAt_six (b : Ad) (i : Nat) : (ofAt b i).six = b.six := by
  unfold ofAt
  cases h : b.six <;> simp
  split <;> rfl
theorem ofAt_le (b : Ad) (i : Nat) : (ofAt b i).hi ≤ b.hi ∧ (ofAt b i).lo ≤ b.lo := by
  unfold ofAt
  cases h : b.six
  · simp [Nat.div_le_self]
  · simp
    split <;> simp [Nat.div_le_self]
section
variable {w : World}
set_option maxHeartbeats 3200000 in
set_option maxRecDepth 100000 in
theorem rof (b : Ad) (ho : b.ok) (hv : validA b = true) (g n : Nat) (hn : n = widthA b) (hB : Blk w g 3 ((bitsA b).map i64v).toArray) :
    Calls Tryz.prog 63 #[.bool b.six, .slice (some ⟨g, 0, none⟩) n n] w fun e w' => e = .returned (adV b) ∧ Fr N0 w w' := by
  have H0 := Lib.hid (ofAt_zero ho hv)
  have H1 := Lib.hid (ofAt_all hv)
  have HS := Lib.hid fun i (hi : i < widthA b) => ofAt_step ho hv hi
  have HB := Lib.hid hB
  have HN := Lib.hid hn
  have HO := Lib.hid ho
  obtain ⟨s, hs⟩ : ∃ s, s = b.six := ⟨_, rfl⟩
  rw [← hs]
  have HSX := Lib.hid hs
  have hn128 : n ≤ 128 := by rw [hn]; unfold widthA; split <;> omega
  have hlt0 := hB.lt
  clear hB hn hs ho hv
  go_enter Tryz.func63, Tryz.ntmps63
  go_wp2_with fail
  have HF1 := Lib.hid (Fr.alloc (Fr.alloc (Fr.refl N0 w) (.cells #[.bool false, .int .u64 0, .int .u64 0] 24)) (.cells #[.bool s, .int .u64 0, .int .u64 0] 24))
  have HA4 := Lib.hid ((Blk.new w 24 #[.bool false, .int .u64 0, .int .u64 0]).alloc (.cells #[.bool s, .int .u64 0, .int .u64 0] 24))
  have HA5 := Lib.hid (Blk.alloc2 w (.cells #[.bool false, .int .u64 0, .int .u64 0] 24) 24 #[.bool s, .int .u64 0, .int .u64 0])
  have HBn := Lib.hid ((HB.out.alloc (.cells #[.bool false, .int .u64 0, .int .u64 0] 24)).alloc (.cells #[.bool s, .int .u64 0, .int .u64 0] 24))
  generalize World.alloc (w.alloc _) _ = w1 at *
  obtain ⟨g5, hg5⟩ : ∃ g, g = w.heap.size + 1 := ⟨_, rfl⟩
  rw [← hg5] at HA5 ⊢
  obtain ⟨g4, hg4⟩ : ∃ g, g = w.heap.size := ⟨_, rfl⟩
  rw [← hg4] at HA4 ⊢
  have N45 := Lib.hid (show g4 ≠ g5 by omega)
  have NG5 := Lib.hid (show g ≠ g5 by omega)
  have HG5 := Lib.hid (show w.heap.size ≤ g5 by omega)
  have HG4 := Lib.hid (show w.heap.size ≤ g4 by omega)
  clear hg4 hg5 hlt0 HB
  go_loopw [6] (fun i wr => ∃ j : Nat, j ≤ n ∧ i = .int .i64 (j : Int) ∧ Blk wr g5 24 #[.bool s, .int .u64 ((ofAt b j).hi : Int), .int .u64 ((ofAt b j).lo : Int)] ∧ Fr (fun i => i = g5) w1 wr) (fun i _ => n + 1 - (RowKit.intOf i).toNat)
  case atStart => exact ⟨0, Nat.zero_le _, rfl, by rw [H0.out]; exact HA5.out, Fr.refl _ _⟩
  case round =>
    obtain ⟨j, hj, rfl, hb5, hF⟩ := hrel
    have B5 := Lib.hid hb5
    have G := Lib.hid hF
    have BG := Lib.hid (HBn.out.fr hF NG5.out)
    have hle := ofAt_le b j
    have hle' := ofAt_le b (j + 1)
    have ho := HO.out
    unfold Ad.ok at ho
    clear hb5 hF
    by_cases hjn : j < n
    · have hx := bitsA_at (b := b) (i := j) (by rw [← HN.out]; exact hjn)
      have hstep := HS.out j (by rw [← HN.out]; exact hjn)
      have hx2 := bit_lt2 b (j : Int)
      generalize bitA b (j : Int) = x at *
      have y := BG.out.cell j
      rw [List.getElem?_toArray, List.getElem?_map, hx] at y
      replace y : wr.cell? ⟨g, j, none⟩ = some (.int .i64 (x : Int)) := y
      obtain ⟨oj, hoj⟩ : ∃ o, o = ofAt b j := ⟨_, rfl⟩
      obtain ⟨ok, hok⟩ : ∃ o, o = ofAt b (j + 1) := ⟨_, rfl⟩
      have HOK := Lib.hid hok
      rw [← hoj] at B5 hle hstep
      rw [← hok] at hle' hstep
      rw [← HSX.out] at hstep
      obtain ⟨z0, z1, z2⟩ := B5.out.c3
      have fz1 := B5.out.frozen 1
      have fz2 := B5.out.frozen 2
      obtain ⟨os, oh, ol⟩ := oj
      obtain ⟨ks, kh, kl⟩ := ok
      simp only at hle hle' z1 z2 hstep
      clear hoj hok hx
      cases s with
      | false =>
        rw [if_neg (by simp)] at hstep
        rw [Ad.mk.injEq] at hstep
        have HST := Lib.hid hstep
        have hkl : 2 * ol + x < 18446744073709551616 := by omega
        clear hstep
        go_wp2_with fail
        go_region
        all_goals go_wp2_with fail
        all_goals refine ⟨⟨j + 1, by omega, by go_num, ?_, ?_⟩, by simp [RowKit.intOf]; omega⟩
        · rw [← HOK.out, HST.out.2.1, HST.out.2.2]
          exact (B5.out.set_ 2 _).drew
        · exact (G.out.setCell (.inl rfl) _).drew
      | true =>
        by_cases h64 : j < 64
        · have h64I : (j : Int) < 64 := by omega
          rw [if_pos ⟨rfl, h64⟩, Ad.mk.injEq] at hstep
          have HST := Lib.hid hstep
          have hkl : 2 * oh + x < 18446744073709551616 := by omega
          clear hstep
          go_wp2_with fail
          go_region
          all_goals go_wp2_with fail
          all_goals refine ⟨⟨j + 1, by omega, by go_num, ?_, ?_⟩, by simp [RowKit.intOf]; omega⟩
          · rw [← HOK.out, HST.out.2.1, HST.out.2.2]
            exact (B5.out.set_ 1 _).drew
          · exact (G.out.setCell (.inl rfl) _).drew
        · have h64I : decide ((j : Int) < 64) = false := decide_eq_false (by omega)
          rw [if_neg (by simp; omega), Ad.mk.injEq] at hstep
          have HST := Lib.hid hstep
          have hkl : 2 * ol + x < 18446744073709551616 := by omega
          clear hstep
          go_wp2_with fail
          go_region
          all_goals go_wp2_with fail
          all_goals refine ⟨⟨j + 1, by omega, by go_num, ?_, ?_⟩, by simp [RowKit.intOf]; omega⟩
          · rw [← HOK.out, HST.out.2.1, HST.out.2.2]
            exact (B5.out.set_ 2 _).drew
          · exact (G.out.setCell (.inl rfl) _).drew
    · obtain rfl : j = n := by omega
      have BF : Hid (Blk wr g5 24 #[.bool s, .int .u64 (b.hi : Int), .int .u64 (b.lo : Int)]) := by
        have e : ofAt b j = b := by rw [HN.out]; exact H1.out
        rw [e] at B5
        exact B5
      have B4 := Lib.hid (HA4.out.fr G.out N45.out)
      obtain ⟨z0, z1, z2⟩ := BF.out.c3
      clear hle hle' B5
      go_wp2_with (refine wpList_store_row rfl 24 _ _ rfl g4 _ rfl rfl _ _ B4.out rfl rfl (by simp [Value.oneCell']) ?_)
      refine ret_cell rfl rfl (B4.out.row _) Tryz.underlying24 rfl ⟨?_, Fr.setRow (HF1.out.step G.out fun i hi => .inr (hi ▸ HG5.out)) (.inr HG4.out) _⟩
      unfold adV
      rw [HSX.out]
end
end Go.Proofs.YtcameghlkplgfaaGreatDoor
