/- The document's Parse and Print of prefixes. PrefixTexts: what it answers at texts that are not too long. -/
import Derived.Test.YtcameghlkplgfaaGreatDoorQd
import Derived.Test.YtcameghlkplgfaaGreatDoorQb
import Derived.Test.YtcameghlkplgfaaGreatDoorRq
import Derived.Test.YtcameghlkplgfaaGreatDoorQe
namespace Go.Proofs.YtcameghlkplgfaaGreatDoor
open Go.Proofs Go.Shelf Go.RowKit
theorem occ1 {s : ByteArray} {j : Nat} (h : j < s.size) : Lib.occAt s.data.toList [47] j = ((s[j]'h) == 47) := by
  unfold Lib.occAt
  rw [drop_at h]
  show ((47 : UInt8) == _ && true) = _
  rw [Bool.and_true, Bool.eq_iff_iff, beq_iff_eq, beq_iff_eq]
  exact eq_comm
theorem ne47 {x : UInt8} (h : (x == 47) = false) : x.toNat ≠ 47 := fun e => by
  rw [UInt8.toNat_inj.1 (show x.toNat = (47 : UInt8).toNat from e)] at h
  cases h
/-- Where the first slash stands. -/
theorem sl_find (s : ByteArray) : (Lib.index s.data.toList [47] = -1 ∧ ∀ j (h : j < s.size), (s[j]'h).toNat ≠ 47) ∨ ∃ p, ∃ h : p < s.size, Lib.index s.data.toList [47] = (p : Int) ∧ (s[p]'h).toNat = 47 ∧ ∀ j (h : j < p), (s[j]'(by omega)).toNat ≠ 47 := by
  have hl : s.data.toList.length = s.size := Lib.size_eq s
  rcases Lib.index_spec s.data.toList [47] with ⟨h1, h2⟩ | ⟨p, h1, h2, h3, h4⟩
  · refine .inl ⟨h1, fun j h => ne47 ?_⟩
    rw [← occ1 h]
    exact h2 j (by omega)
  · have hp : p < s.size := by
      rcases Lib.occAt_room h3 with h | h
      · simp only [List.length_cons, List.length_nil] at h; omega
      · cases h
    refine .inr ⟨p, hp, h1, ?_, fun j h => ne47 ?_⟩
    · rw [occ1 hp, beq_iff_eq] at h3
      rw [h3]; rfl
    · rw [← occ1 (by omega)]
      exact h4 j h
theorem parsP_neg (a : Ad) : parsP a (-1) = (⟨⟨false, 0, 0⟩, 0⟩, 30) := by
  unfold parsP
  rw [if_neg]
  intro h
  have := validP_bits h
  simp only at this
  omega
def decI : Option Nat → Int
  | some v => (v : Int)
  | none => -1
section
variable {w : World}
set_option maxHeartbeats 1600000 in
set_option maxRecDepth 100000 in
theorem rpp_no (s : ByteArray) (hs : s.size ≤ 1048576) (hn : ∀ j (h : j < s.size), (s[j]'h).toNat ≠ 47) : Calls Tryz.prog 6 #[.string s] w fun e w' => e = .returned (.tuple #[pxV ⟨⟨false, 0, 0⟩, 0⟩, .int .i64 30]) ∧ Fr N0 w w' := by
  have HN := Lib.hid hn
  clear hn
  go_enter Tryz.func6, Tryz.ntmps6
  go_wp2_with fail
  have HF0 := Lib.hid (Fr.alloc (Fr.refl N0 w) (.cells #[.bool false, .int .u64 0, .int .u64 0, .int .i64 0] 26))
  have HA2 := Lib.hid (Blk.new w 26 #[.bool false, .int .u64 0, .int .u64 0, .int .i64 0])
  generalize w.alloc _ = w1 at *
  obtain ⟨g2, hg2⟩ : ∃ g, g = w.heap.size := ⟨_, rfl⟩
  rw [← hg2] at HA2 ⊢
  have HG2 := Lib.hid (Nat.le_of_eq hg2.symm)
  clear hg2
  go_loop [4] (fun i => ∃ j : Nat, j ≤ s.size ∧ i = .int .i64 (j : Int)) (fun i => s.size + 1 - (intOf i).toNat)
  case atStart => exact ⟨0, by omega, rfl⟩
  case round =>
    obtain ⟨j, hj, rfl⟩ := hrel
    by_cases hjs : j < s.size
    · have hjI : (j : Int) < (s.size : Int) := by omega
      have e1 := HN.out j hjs
      go_wp2_with fail
      go_round
      case rel => exact ⟨j + 1, by omega, by go_num⟩
      case measure => simp [intOf]; omega
    · have hjI : j = s.size := by omega
      subst hjI
      go_wp2_with (refine wpList_store_row rfl 26 _ _ rfl g2 _ rfl rfl _ _ HA2.out rfl rfl (by simp [Value.oneCell']) ?_)
      refine ret_cell2 rfl rfl (HA2.out.row _) Tryz.underlying26 rfl ⟨rfl, Fr.setRow HF0.out (.inr HG2.out) _⟩
set_option maxHeartbeats 1600000 in
set_option maxRecDepth 100000 in
theorem rpp_err (s : ByteArray) (hs : s.size ≤ 1048576) (p : Nat) (hp : p < s.size) (h47 : (s[p]'hp).toNat = 47) (hn : ∀ j (h : j < p), (s[j]'(by omega)).toNat ≠ 47)
    (h21 : ∀ W : World, Calls Tryz.prog 21 #[.string (s.extract 0 p)] W fun e w' => e = .returned (.tuple #[adV ⟨false, 0, 0⟩, .int .i64 20]) ∧ Fr N0 W w') :
    Calls Tryz.prog 6 #[.string s] w fun e w' => e = .returned (.tuple #[pxV ⟨⟨false, 0, 0⟩, 0⟩, .int .i64 20]) ∧ Fr N0 w w' := by
  unfold adV at h21
  have HN := Lib.hid hn
  have H47 := Lib.hid h47
  have H21 := Lib.hid h21
  clear hn h47 h21
  go_enter Tryz.func6, Tryz.ntmps6
  go_wp2_with fail
  have HF0 := Lib.hid (Fr.alloc (Fr.refl N0 w) (.cells #[.bool false, .int .u64 0, .int .u64 0, .int .i64 0] 26))
  have HA2 := Lib.hid (Blk.new w 26 #[.bool false, .int .u64 0, .int .u64 0, .int .i64 0])
  generalize w.alloc _ = w1 at *
  obtain ⟨g2, hg2⟩ : ∃ g, g = w.heap.size := ⟨_, rfl⟩
  rw [← hg2] at HA2 ⊢
  have HG2 := Lib.hid (Nat.le_of_eq hg2.symm)
  clear hg2
  go_loop [4] (fun i => ∃ j : Nat, j ≤ p ∧ i = .int .i64 (j : Int)) (fun i => p + 1 - (intOf i).toNat)
  case atStart => exact ⟨0, by omega, rfl⟩
  case round =>
    obtain ⟨j, hj, rfl⟩ := hrel
    have hjs : j < s.size := by omega
    have hjI : (j : Int) < (s.size : Int) := by omega
    by_cases hjp : j < p
    · have e1 := HN.out j hjp
      go_wp2_with fail
      go_round
      case rel => exact ⟨j + 1, by omega, by go_num⟩
      case measure => simp [intOf]; omega
    · obtain rfl : j = p := by omega
      have e1 := H47.out
      go_wp2_with fail
      refine (H21.out _).mono ?_
      rintro e w3 ⟨rfl, hf3⟩
      have F3 := Lib.hid hf3
      have B3 := Lib.hid ((HA2.out.fr hf3 id).alloc (.cells #[.bool false, .int .u64 0, .int .u64 0] 24))
      have FF := Lib.hid ((HF0.out.trans hf3).alloc (.cells #[.bool false, .int .u64 0, .int .u64 0] 24))
      go_wp2_with (refine wpList_store_row rfl 26 _ _ rfl g2 _ rfl rfl _ _ B3.out rfl rfl (by simp [Value.oneCell']) ?_)
      refine ret_cell2 rfl rfl (B3.out.row _) Tryz.underlying26 rfl ⟨rfl, Fr.setRow FF.out (.inr HG2.out) _⟩
set_option maxHeartbeats 3200000 in
set_option maxRecDepth 100000 in
theorem rpp_ok (s : ByteArray) (hs : s.size ≤ 1048576) (p : Nat) (hp : p < s.size) (h47 : (s[p]'hp).toNat = 47) (hn : ∀ j (h : j < p), (s[j]'(by omega)).toNat ≠ 47) (a : Ad) (ho : a.ok) (t : ByteArray) (ht : t = s.extract (p + 1) s.size)
    (h21 : ∀ W : World, Calls Tryz.prog 21 #[.string (s.extract 0 p)] W fun e w' => e = .returned (.tuple #[adV a, .int .i64 0]) ∧ Fr N0 W w') :
    Calls Tryz.prog 6 #[.string s] w fun e w' => e = .returned (.tuple #[pxV (parsP a (manyP t.data.toList)).1, .int .i64 (parsP a (manyP t.data.toList)).2]) ∧ Fr N0 w w' := by
  have hoa := Lib.hid ho
  obtain ⟨s1, h1, l1⟩ := a
  unfold adV at h21
  have c22 : ∀ (w : World) (k : Nat) {b : Bool}, k < 1000 → validP ⟨⟨s1, h1, l1⟩, (k : Int)⟩ = b → Calls Tryz.prog 22 #[.agg #[.bool s1, .int .u64 (h1 : Int), .int .u64 (l1 : Int), .int .i64 (k : Int)]] w fun e w' => e = .returned (.bool b) ∧ Fr N0 w w' := fun w k b hk hb => hb ▸ rvalP (w := w) ⟨⟨s1, h1, l1⟩, (k : Int)⟩ ⟨hoa.out, by simp only; omega, by simp only; omega⟩
  have C22 := Lib.hid c22
  have HN := Lib.hid hn
  have H47 := Lib.hid h47
  have H21 := Lib.hid h21
  have HT := Lib.hid ht
  have hlen : t.data.toList.length = t.size := Lib.size_eq t
  obtain ⟨M, hM⟩ : ∃ M, M = manyP t.data.toList := ⟨_, rfl⟩
  rw [← hM]
  have HCS := Lib.hid (show t.size = 0 ∧ M = -1 ∨ 3 < t.size ∧ M = -1 ∨ (∃ h : 0 < t.size, t.size ≤ 3 ∧ (t[0]'h).toNat = 48 ∧ 1 < t.size ∧ M = -1) ∨ (∃ h : 0 < t.size, t.size = 1 ∧ (t[0]'h).toNat = 48 ∧ M = decI (decG 0 t.data.toList)) ∨ (∃ h : 0 < t.size, t.size ≤ 3 ∧ (t[0]'h).toNat ≠ 48 ∧ M = decI (decG 0 t.data.toList)) from by
    rw [hM]
    unfold manyP
    rw [hlen]
    by_cases h0 : t.size = 0
    · exact .inl ⟨h0, if_pos (.inl h0)⟩
    · by_cases h3 : 3 < t.size
      · exact .inr (.inl ⟨h3, if_pos (.inr (.inl h3))⟩)
      · have hh := head_of (show 0 < t.size by omega)
        by_cases hz : (t[0]'(by omega)).toNat = 48
        · have hq : t[0]'(by omega) = 48 := UInt8.toNat_inj.1 hz
          by_cases h1 : 1 < t.size
          · exact .inr (.inr (.inl ⟨by omega, by omega, hz, h1, if_pos (.inr (.inr ⟨by rw [hh, hq], h1⟩))⟩))
          · exact .inr (.inr (.inr (.inl ⟨by omega, by omega, hz, if_neg (by omega)⟩)))
        · refine .inr (.inr (.inr (.inr ⟨by omega, by omega, hz, if_neg ?_⟩)))
          rintro (h | h | ⟨h, _⟩)
          · omega
          · omega
          · rw [hh] at h
            injection h with h
            exact hz (by rw [h]; rfl))
  have HL := Lib.hid hlen
  clear hn h47 h21 ht hM hlen c22 ho
  go_enter Tryz.func6, Tryz.ntmps6
  go_wp2_with fail
  have HF0 := Lib.hid (Fr.alloc (Fr.refl N0 w) (.cells #[.bool false, .int .u64 0, .int .u64 0, .int .i64 0] 26))
  have HA2 := Lib.hid (Blk.new w 26 #[.bool false, .int .u64 0, .int .u64 0, .int .i64 0])
  generalize w.alloc _ = w1 at *
  obtain ⟨g2, hg2⟩ : ∃ g, g = w.heap.size := ⟨_, rfl⟩
  rw [← hg2] at HA2 ⊢
  have HG2 := Lib.hid (Nat.le_of_eq hg2.symm)
  clear hg2
  go_loop [4] (fun i => ∃ j : Nat, j ≤ p ∧ i = .int .i64 (j : Int)) (fun i => p + 1 - (intOf i).toNat)
  case atStart => exact ⟨0, by omega, rfl⟩
  case round =>
    obtain ⟨j, hj, rfl⟩ := hrel
    have hjs : j < s.size := by omega
    have hjI : (j : Int) < (s.size : Int) := by omega
    by_cases hjp : j < p
    · have e1 := HN.out j hjp
      go_wp2_with fail
      go_round
      case rel => exact ⟨j + 1, by omega, by go_num⟩
      case measure => simp [intOf]; omega
    · obtain rfl : j = p := by omega
      have e1 := H47.out
      go_wp2_with fail
      refine (H21.out _).mono ?_
      rintro e w3 ⟨rfl, hf3⟩
      have HA3 := Lib.hid ((HA2.out.fr hf3 id).alloc (.cells #[.bool s1, .int .u64 (h1 : Int), .int .u64 (l1 : Int)] 24))
      have HF3 := Lib.hid ((HF0.out.trans hf3).alloc (.cells #[.bool s1, .int .u64 (h1 : Int), .int .u64 (l1 : Int)] 24))
      have HB3 := Lib.hid (Blk.new w3 24 #[.bool s1, .int .u64 (h1 : Int), .int .u64 (l1 : Int)])
      clear hf3
      go_upto_region 10 with fail
      rw [← HT.out]
      generalize w3.alloc _ = w4 at *
      generalize w3.heap.size = g4 at *
      clear e1 hjI hjs hjp hj HT HN H47 H21
      obtain ⟨z0, z1, z2⟩ := HB3.out.c3
      rcases HCS.out with ⟨h0, hM⟩ | ⟨h3, hM⟩ | ⟨hp0, h3, hz, h1', hM⟩ | ⟨hp0, h1', hz, hM⟩ | ⟨hp0, h3, hz, hM⟩
      · have hemp : t.toList.isEmpty = true := by rw [ByteArray.toList_eq, empty_of h0]; rfl
        have HM := Lib.hid hM
        clear hM h0 HCS
        go_wp2_with fail
        go_loop [8, 9, 10] (fun n f i => ∃ (j : Nat) (v : Int), j ≤ t.size ∧ i = .int .i64 (j : Int) ∧ f = .bool false ∧ n = .int .i64 v) (fun _ _ i => t.size + 1 - (intOf i).toNat)
        case atStart => exact ⟨0, 0, by omega, rfl, rfl, rfl⟩
        case round =>
          obtain ⟨j, v, hj, rfl, rfl, rfl⟩ := hrel
          have HAF := Lib.hid (HA3.out.alloc (.cells #[.bool s1, .int .u64 (h1 : Int), .int .u64 (l1 : Int), .int .i64 v] 26))
          have HFF := Lib.hid (HF3.out.alloc (.cells #[.bool s1, .int .u64 (h1 : Int), .int .u64 (l1 : Int), .int .i64 v] 26))
          have hor : (j : Int) < (t.size : Int) ∨ ¬ (j : Int) < (t.size : Int) := by omega
          rcases hor with hjI | hjI
          all_goals
            go_wp2_with (refine wpList_store_row rfl 26 _ _ rfl g2 _ rfl rfl _ _ HAF.out rfl rfl (by simp [Value.oneCell']) ?_)
            refine ret_cell2 rfl rfl (HAF.out.row _) Tryz.underlying26 rfl ⟨?_, Fr.setRow HFF.out (.inr HG2.out) _⟩
            rw [HM.out, parsP_neg]
            rfl
      · have hemp := nempty_of (show t.size ≠ 0 by omega)
        have hi : (3 : Int) < (t.size : Int) := by omega
        have HM := Lib.hid hM
        clear hM h3 HCS
        go_wp2_with fail
        go_loop [8, 9, 10] (fun n f i => ∃ (j : Nat) (v : Int), j ≤ t.size ∧ i = .int .i64 (j : Int) ∧ f = .bool false ∧ n = .int .i64 v) (fun _ _ i => t.size + 1 - (intOf i).toNat)
        case atStart => exact ⟨0, 0, by omega, rfl, rfl, rfl⟩
        case round =>
          obtain ⟨j, v, hj, rfl, rfl, rfl⟩ := hrel
          have HAF := Lib.hid (HA3.out.alloc (.cells #[.bool s1, .int .u64 (h1 : Int), .int .u64 (l1 : Int), .int .i64 v] 26))
          have HFF := Lib.hid (HF3.out.alloc (.cells #[.bool s1, .int .u64 (h1 : Int), .int .u64 (l1 : Int), .int .i64 v] 26))
          have hor : (j : Int) < (t.size : Int) ∨ ¬ (j : Int) < (t.size : Int) := by omega
          rcases hor with hjI | hjI
          all_goals
            go_wp2_with (refine wpList_store_row rfl 26 _ _ rfl g2 _ rfl rfl _ _ HAF.out rfl rfl (by simp [Value.oneCell']) ?_)
            refine ret_cell2 rfl rfl (HAF.out.row _) Tryz.underlying26 rfl ⟨?_, Fr.setRow HFF.out (.inr HG2.out) _⟩
            rw [HM.out, parsP_neg]
            rfl
      · have hemp := nempty_of (show t.size ≠ 0 by omega)
        have hi : (t.size : Int) ≤ 3 := by omega
        have e1 : (((t[0]'hp0).toNat : Int) == 48) = true := by simp [hz]
        have e2 : (t.toList == [48]) = false := by
          rw [ByteArray.toList_eq, beq_eq_false_iff_ne]
          intro e
          have := congrArg List.length e
          rw [HL.out, List.length_singleton] at this
          omega
        have HM := Lib.hid hM
        clear hM h3 HCS h1'
        go_wp2_with fail
        go_loop [8, 9, 10] (fun n f i => ∃ (j : Nat) (v : Int), j ≤ t.size ∧ i = .int .i64 (j : Int) ∧ f = .bool false ∧ n = .int .i64 v) (fun _ _ i => t.size + 1 - (intOf i).toNat)
        case atStart => exact ⟨0, 0, by omega, rfl, rfl, rfl⟩
        case round =>
          obtain ⟨j, v, hj, rfl, rfl, rfl⟩ := hrel
          have HAF := Lib.hid (HA3.out.alloc (.cells #[.bool s1, .int .u64 (h1 : Int), .int .u64 (l1 : Int), .int .i64 v] 26))
          have HFF := Lib.hid (HF3.out.alloc (.cells #[.bool s1, .int .u64 (h1 : Int), .int .u64 (l1 : Int), .int .i64 v] 26))
          have hor : (j : Int) < (t.size : Int) ∨ ¬ (j : Int) < (t.size : Int) := by omega
          rcases hor with hjI | hjI
          all_goals
            go_wp2_with (refine wpList_store_row rfl 26 _ _ rfl g2 _ rfl rfl _ _ HAF.out rfl rfl (by simp [Value.oneCell']) ?_)
            refine ret_cell2 rfl rfl (HAF.out.row _) Tryz.underlying26 rfl ⟨?_, Fr.setRow HFF.out (.inr HG2.out) _⟩
            rw [HM.out, parsP_neg]
            rfl
      · have hemp := nempty_of (show t.size ≠ 0 by omega)
        have hi : (t.size : Int) ≤ 3 := by omega
        have HS := Lib.hid (show t.size ≤ 3 by omega)
        have e1 : (((t[0]'hp0).toNat : Int) == 48) = true := by simp [hz]
        have e2 : (t.toList == [48]) = true := by
          have hh := head_of hp0
          have hl := HL.out
          have hq : t[0]'hp0 = 48 := UInt8.toNat_inj.1 hz
          rw [ByteArray.toList_eq, beq_iff_eq]
          revert hh hl
          generalize t.data.toList = l
          rw [hq, h1']
          intro hh hl
          match l, hl, hh with
          | [a], _, hh => simpa using hh
        have HM := Lib.hid hM
        clear hM HCS h1'
        go_wp2_with fail
        go_loop [8, 9, 10] (fun n f i => ∃ (j : Nat) (f0 : Bool) (v : Int), j ≤ t.size ∧ i = .int .i64 (j : Int) ∧ f = .bool f0 ∧ n = .int .i64 v ∧ ((f0 = true ∧ t.size ≤ 3 ∧ ∃ x : Nat, v = (x : Int) ∧ x < 10 ^ j ∧ Hid (M = decI (decG x (t.data.toList.drop j)))) ∨ (f0 = false ∧ Hid (M = -1)))) (fun _ _ i => t.size + 1 - (intOf i).toNat)
        case atStart => exact ⟨0, true, 0, by omega, rfl, rfl, rfl, .inl ⟨rfl, HS.out, 0, rfl, by omega, HM⟩⟩
        case round =>
          obtain ⟨j, f0, v, hj, rfl, rfl, rfl, hR⟩ := hrel
          rcases hR with ⟨rfl, ht3, x, rfl, hx, hR⟩ | ⟨rfl, HM⟩
          · have hx3 : x < 1000 := by
              have := Nat.pow_le_pow_right (n := 10) (by omega) (show j ≤ 3 by omega)
              omega
            by_cases hjs : j < t.size
            · have hjI : (j : Int) < (t.size : Int) := by omega
              have hst := hR.out
              rw [drop_at hjs, decG] at hst
              have HST := Lib.hid hst
              have hx2 : x < 100 := by
                have := Nat.pow_le_pow_right (n := 10) (by omega) (show j ≤ 2 by omega)
                omega
              have HXX := Lib.hid (show ∀ d, d < 10 → x * 10 + d < 10 ^ (j + 1) from fun d hd => by rw [Nat.pow_succ]; omega)
              clear hst hR hx
              by_cases hdg : 48 ≤ (t[j]'hjs).toNat ∧ (t[j]'hjs).toNat ≤ 57
              · have HD := Lib.hid (HST.out.trans (congrArg decI (if_pos hdg)))
                obtain ⟨d1, d2⟩ := hdg
                go_wp2_with fail
                go_round
                case rel => exact ⟨j + 1, true, ((x * 10 + ((t[j]'hjs).toNat - 48) : Nat) : Int), by omega, by go_num, congrArg Value.bool (decide_eq_true (by omega)), by go_num, .inl ⟨rfl, ht3, x * 10 + ((t[j]'hjs).toNat - 48), rfl, HXX.out _ (by omega), HD⟩⟩
                case measure => simp [intOf]; omega
              · have HD := Lib.hid (HST.out.trans (congrArg decI (if_neg hdg)))
                have hlt := UInt8.toNat_lt (t[j]'hjs)
                have hor : (t[j]'hjs).toNat < 48 ∨ (¬ (t[j]'hjs).toNat < 48 ∧ 57 < (t[j]'hjs).toNat) := by omega
                clear hdg
                rcases hor with d1 | ⟨d1, d2⟩
                all_goals
                  go_wp2_with fail
                  go_round
                  case rel => exact ⟨j + 1, false, _, by omega, by go_num, by first | rfl | exact congrArg Value.bool (decide_eq_false (by omega)), rfl, .inr ⟨rfl, HD⟩⟩
                  case measure => simp [intOf]; omega
            · obtain rfl : j = t.size := by omega
              have HD := Lib.hid (show M = (x : Int) by
                have := hR.out
                rw [List.drop_of_length_le (by rw [HL.out]; exact Nat.le_refl _)] at this
                exact this)
              clear hR hx
              have HB5 := Lib.hid (Blk.new w4 26 #[.bool s1, .int .u64 (h1 : Int), .int .u64 (l1 : Int), .int .i64 (x : Int)])
              have HA5 := Lib.hid (HA3.out.alloc (.cells #[.bool s1, .int .u64 (h1 : Int), .int .u64 (l1 : Int), .int .i64 (x : Int)] 26))
              have HF5 := Lib.hid (HF3.out.alloc (.cells #[.bool s1, .int .u64 (h1 : Int), .int .u64 (l1 : Int), .int .i64 (x : Int)] 26))
              obtain ⟨y0, y1, y2, y3⟩ := HB5.out.c4
              cases hv : validP ⟨⟨s1, h1, l1⟩, (x : Int)⟩
              all_goals
                have k22 := fun w => C22.out w x hx3 hv
                have HV := Lib.hid hv
                clear hv
                go_wp2_with fail
                generalize w4.alloc _ = w5 at *
                generalize w4.heap.size = g5 at *
                refine (k22 _).mono ?_
                rintro e w6 ⟨rfl, hf⟩
                have HA6 := Lib.hid (HA5.out.fr hf id)
                have HF6 := Lib.hid (HF5.out.trans hf)
                clear y0 y1 y2 y3
                obtain ⟨y0, y1, y2, y3⟩ := (HB5.out.fr hf id).c4
                clear hf
                go_wp2_with (refine wpList_store_row rfl 26 _ _ rfl g2 _ rfl rfl _ _ HA6.out rfl rfl (by simp [Value.oneCell']) ?_)
                refine ret_cell2 rfl rfl (HA6.out.row _) Tryz.underlying26 rfl ⟨?_, Fr.setRow HF6.out (.inr HG2.out) _⟩
                rw [HD.out]
                unfold parsP
                rw [HV.out]
                rfl
          · have HAF := Lib.hid (HA3.out.alloc (.cells #[.bool s1, .int .u64 (h1 : Int), .int .u64 (l1 : Int), .int .i64 v] 26))
            have HFF := Lib.hid (HF3.out.alloc (.cells #[.bool s1, .int .u64 (h1 : Int), .int .u64 (l1 : Int), .int .i64 v] 26))
            have hor : (j : Int) < (t.size : Int) ∨ ¬ (j : Int) < (t.size : Int) := by omega
            rcases hor with hjI | hjI
            all_goals
              go_wp2_with (refine wpList_store_row rfl 26 _ _ rfl g2 _ rfl rfl _ _ HAF.out rfl rfl (by simp [Value.oneCell']) ?_)
              refine ret_cell2 rfl rfl (HAF.out.row _) Tryz.underlying26 rfl ⟨?_, Fr.setRow HFF.out (.inr HG2.out) _⟩
              rw [HM.out, parsP_neg]
              rfl
      · have hemp := nempty_of (show t.size ≠ 0 by omega)
        have hi : (t.size : Int) ≤ 3 := by omega
        have HS := Lib.hid (show t.size ≤ 3 by omega)
        have e1 : (((t[0]'hp0).toNat : Int) == 48) = false := by simp; omega
        have HM := Lib.hid hM
        clear hM h3 HCS
        go_wp2_with fail
        go_loop [8, 9, 10] (fun n f i => ∃ (j : Nat) (f0 : Bool) (v : Int), j ≤ t.size ∧ i = .int .i64 (j : Int) ∧ f = .bool f0 ∧ n = .int .i64 v ∧ ((f0 = true ∧ t.size ≤ 3 ∧ ∃ x : Nat, v = (x : Int) ∧ x < 10 ^ j ∧ Hid (M = decI (decG x (t.data.toList.drop j)))) ∨ (f0 = false ∧ Hid (M = -1)))) (fun _ _ i => t.size + 1 - (intOf i).toNat)
        case atStart => exact ⟨0, true, 0, by omega, rfl, rfl, rfl, .inl ⟨rfl, HS.out, 0, rfl, by omega, HM⟩⟩
        case round =>
          obtain ⟨j, f0, v, hj, rfl, rfl, rfl, hR⟩ := hrel
          rcases hR with ⟨rfl, ht3, x, rfl, hx, hR⟩ | ⟨rfl, HM⟩
          · have hx3 : x < 1000 := by
              have := Nat.pow_le_pow_right (n := 10) (by omega) (show j ≤ 3 by omega)
              omega
            by_cases hjs : j < t.size
            · have hjI : (j : Int) < (t.size : Int) := by omega
              have hst := hR.out
              rw [drop_at hjs, decG] at hst
              have HST := Lib.hid hst
              have hx2 : x < 100 := by
                have := Nat.pow_le_pow_right (n := 10) (by omega) (show j ≤ 2 by omega)
                omega
              have HXX := Lib.hid (show ∀ d, d < 10 → x * 10 + d < 10 ^ (j + 1) from fun d hd => by rw [Nat.pow_succ]; omega)
              clear hst hR hx
              by_cases hdg : 48 ≤ (t[j]'hjs).toNat ∧ (t[j]'hjs).toNat ≤ 57
              · have HD := Lib.hid (HST.out.trans (congrArg decI (if_pos hdg)))
                obtain ⟨d1, d2⟩ := hdg
                go_wp2_with fail
                go_round
                case rel => exact ⟨j + 1, true, ((x * 10 + ((t[j]'hjs).toNat - 48) : Nat) : Int), by omega, by go_num, congrArg Value.bool (decide_eq_true (by omega)), by go_num, .inl ⟨rfl, ht3, x * 10 + ((t[j]'hjs).toNat - 48), rfl, HXX.out _ (by omega), HD⟩⟩
                case measure => simp [intOf]; omega
              · have HD := Lib.hid (HST.out.trans (congrArg decI (if_neg hdg)))
                have hlt := UInt8.toNat_lt (t[j]'hjs)
                have hor : (t[j]'hjs).toNat < 48 ∨ (¬ (t[j]'hjs).toNat < 48 ∧ 57 < (t[j]'hjs).toNat) := by omega
                clear hdg
                rcases hor with d1 | ⟨d1, d2⟩
                all_goals
                  go_wp2_with fail
                  go_round
                  case rel => exact ⟨j + 1, false, _, by omega, by go_num, by first | rfl | exact congrArg Value.bool (decide_eq_false (by omega)), rfl, .inr ⟨rfl, HD⟩⟩
                  case measure => simp [intOf]; omega
            · obtain rfl : j = t.size := by omega
              have HD := Lib.hid (show M = (x : Int) by
                have := hR.out
                rw [List.drop_of_length_le (by rw [HL.out]; exact Nat.le_refl _)] at this
                exact this)
              clear hR hx
              have HB5 := Lib.hid (Blk.new w4 26 #[.bool s1, .int .u64 (h1 : Int), .int .u64 (l1 : Int), .int .i64 (x : Int)])
              have HA5 := Lib.hid (HA3.out.alloc (.cells #[.bool s1, .int .u64 (h1 : Int), .int .u64 (l1 : Int), .int .i64 (x : Int)] 26))
              have HF5 := Lib.hid (HF3.out.alloc (.cells #[.bool s1, .int .u64 (h1 : Int), .int .u64 (l1 : Int), .int .i64 (x : Int)] 26))
              obtain ⟨y0, y1, y2, y3⟩ := HB5.out.c4
              cases hv : validP ⟨⟨s1, h1, l1⟩, (x : Int)⟩
              all_goals
                have k22 := fun w => C22.out w x hx3 hv
                have HV := Lib.hid hv
                clear hv
                go_wp2_with fail
                generalize w4.alloc _ = w5 at *
                generalize w4.heap.size = g5 at *
                refine (k22 _).mono ?_
                rintro e w6 ⟨rfl, hf⟩
                have HA6 := Lib.hid (HA5.out.fr hf id)
                have HF6 := Lib.hid (HF5.out.trans hf)
                clear y0 y1 y2 y3
                obtain ⟨y0, y1, y2, y3⟩ := (HB5.out.fr hf id).c4
                clear hf
                go_wp2_with (refine wpList_store_row rfl 26 _ _ rfl g2 _ rfl rfl _ _ HA6.out rfl rfl (by simp [Value.oneCell']) ?_)
                refine ret_cell2 rfl rfl (HA6.out.row _) Tryz.underlying26 rfl ⟨?_, Fr.setRow HF6.out (.inr HG2.out) _⟩
                rw [HD.out]
                unfold parsP
                rw [HV.out]
                rfl
          · have HAF := Lib.hid (HA3.out.alloc (.cells #[.bool s1, .int .u64 (h1 : Int), .int .u64 (l1 : Int), .int .i64 v] 26))
            have HFF := Lib.hid (HF3.out.alloc (.cells #[.bool s1, .int .u64 (h1 : Int), .int .u64 (l1 : Int), .int .i64 v] 26))
            have hor : (j : Int) < (t.size : Int) ∨ ¬ (j : Int) < (t.size : Int) := by omega
            rcases hor with hjI | hjI
            all_goals
              go_wp2_with (refine wpList_store_row rfl 26 _ _ rfl g2 _ rfl rfl _ _ HAF.out rfl rfl (by simp [Value.oneCell']) ?_)
              refine ret_cell2 rfl rfl (HAF.out.row _) Tryz.underlying26 rfl ⟨?_, Fr.setRow HFF.out (.inr HG2.out) _⟩
              rw [HM.out, parsP_neg]
              rfl
set_option maxHeartbeats 1600000 in
set_option maxRecDepth 100000 in
theorem rpprt (p : Px) (ho : p.ok) : Calls Tryz.prog 8 #[pxV p] w fun e w' => e = .returned (.string (pxS p)) ∧ Fr N0 w w' := by
  cases hv : validP p with
  | false =>
    have hp : pxS p = ⟨#[]⟩ := by unfold pxS; rw [hv]; rfl
    rw [hp]
    have k22 : ∀ w : World, Calls Tryz.prog 22 #[pxV p] w fun e w' => e = .returned (.bool false) ∧ Fr N0 w w' := fun w => hv ▸ rvalP (w := w) p ho
    obtain ⟨⟨s, h, l⟩, m⟩ := p
    clear hv ho hp
    unfold pxV at *
    simp only at *
    go_enter Tryz.func8, Tryz.ntmps8
    go_wp2_with fail
    have HA1 := Lib.hid (Blk.new w 26 #[Value.bool s, Value.int .u64 (h : Int), Value.int .u64 (l : Int), Value.int .i64 m])
    have HF1 := Lib.hid (Fr.alloc (Fr.refl N0 w) (.cells #[Value.bool s, Value.int .u64 (h : Int), Value.int .u64 (l : Int), Value.int .i64 m] 26))
    generalize w.alloc _ = w1 at *
    obtain ⟨g1, hg1⟩ : ∃ g1, g1 = w.heap.size := ⟨_, rfl⟩
    rw [← hg1] at HA1 ⊢
    have HG1 : Hid (w.heap.size ≤ g1) := Lib.hid (by omega)
    clear hg1
    have HZ1 : Hid (∀ W, Fr N0 w1 W → Blk W g1 26 #[Value.bool s, Value.int .u64 (h : Int), Value.int .u64 (l : Int), Value.int .i64 m]) := Lib.hid fun W hf => HA1.out.fr hf id
    have F := Lib.hid (Fr.refl N0 w1)
    obtain ⟨z1_0, z1_1, z1_2, z1_3⟩ := (HZ1.out _ F.out).c4
    go_wp2_with (first
      | (go_at_call 22; refine (k22 _).mono ?_; rintro e w2 ⟨rfl, hf⟩; have F := Lib.hid (F.out.trans hf); obtain ⟨z1_0, z1_1, z1_2, z1_3⟩ := (HZ1.out _ F.out).c4))
    go_ret
    exact ⟨rfl, HF1.out.trans F.out⟩
  | true =>
    obtain ⟨b1, b2⟩ := validP_bits hv
    have hp : pxS p = pxT (txtA p.ad) p.bits := by unfold pxS; rw [hv]; rfl
    rw [hp]
    have k22 : ∀ w : World, Calls Tryz.prog 22 #[pxV p] w fun e w' => e = .returned (.bool true) ∧ Fr N0 w w' := fun w => hv ▸ rvalP (w := w) p ho
    have k25 : ∀ w : World, Calls Tryz.prog 25 #[adV p.ad] w fun e w' => e = .returned (.string (txtA p.ad)) ∧ Fr N0 w w' := fun w => by
      have h := rprt_ (w := w) p.ad ho.ad
      unfold prtA at h
      rw [if_pos (validP_ad hv)] at h
      exact h
    have hA := txtA_size' p.ad
    obtain ⟨⟨s, h, l⟩, m⟩ := p
    simp only at *
    obtain ⟨u, rfl⟩ : ∃ u : Nat, m = u := ⟨m.toNat, by omega⟩
    have hI : Lib.itoa (u : Int) = dgl 10 u := by rw [Lib.itoa_nonneg, dgl_dd u (by omega)]
    have hIl : (dgl 10 u).length ≤ 3 := by
      rw [dgl_dd u (by omega)]
      exact dd_le3 (by omega)
    have k26 : ∀ w : World, Calls Tryz.prog 26 #[.int .u64 (u : Int), .int .u64 10] w fun e w' => e = .returned (.string ⟨(dgl 10 u).toArray⟩) ∧ Fr N0 w w' := fun w => (dgs_ (w := w) 10 u (by omega) (by omega) (by omega)).mono fun e w' ⟨h1, h2⟩ => ⟨h1, h2 ▸ Fr.refl _ _⟩
    unfold pxT
    rw [hI]
    generalize dgl 10 u = I at *
    generalize txtA _ = A at *
    unfold adV at k25
    clear hv ho hp hI
    unfold pxV at *
    simp only at *
    go_enter Tryz.func8, Tryz.ntmps8
    go_wp2_with fail
    have HA1 := Lib.hid (Blk.new w 26 #[Value.bool s, Value.int .u64 (h : Int), Value.int .u64 (l : Int), Value.int .i64 (u : Int)])
    have HF1 := Lib.hid (Fr.alloc (Fr.refl N0 w) (.cells #[Value.bool s, Value.int .u64 (h : Int), Value.int .u64 (l : Int), Value.int .i64 (u : Int)] 26))
    generalize w.alloc _ = w1 at *
    obtain ⟨g1, hg1⟩ : ∃ g1, g1 = w.heap.size := ⟨_, rfl⟩
    rw [← hg1] at HA1 ⊢
    have HG1 : Hid (w.heap.size ≤ g1) := Lib.hid (by omega)
    clear hg1
    have HZ1 : Hid (∀ W, Fr N0 w1 W → Blk W g1 26 #[Value.bool s, Value.int .u64 (h : Int), Value.int .u64 (l : Int), Value.int .i64 (u : Int)]) := Lib.hid fun W hf => HA1.out.fr hf id
    have F := Lib.hid (Fr.refl N0 w1)
    obtain ⟨z1_0, z1_1, z1_2, z1_3⟩ := (HZ1.out _ F.out).c4
    go_wp2_with (first
      | (go_at_call 22; refine (k22 _).mono ?_; rintro e w2 ⟨rfl, hf⟩; have F := Lib.hid (F.out.trans hf); obtain ⟨z1_0, z1_1, z1_2, z1_3⟩ := (HZ1.out _ F.out).c4))
    have HF2 := Lib.hid (HF1.out.trans F.out)
    have z0 := fun x : Fam w2 => (HZ1.out x.w (F.out.trans x.fr)).c4.1
    have z1 := fun x : Fam w2 => (HZ1.out x.w (F.out.trans x.fr)).c4.2.1
    have z2 := fun x : Fam w2 => (HZ1.out x.w (F.out.trans x.fr)).c4.2.2.1
    have z3 := fun x : Fam w2 => (HZ1.out x.w (F.out.trans x.fr)).c4.2.2.2
    clear z1_0 z1_1 z1_2 z1_3
    have q25 := fun x : Fam w2 => k25 x.w
    have q26 := fun x : Fam w2 => k26 x.w
    clear k25 k26
    refine wp_region_fam (by kernel_rfl) (by kernel_rfl) ?_
    repeat (go_big_quiet_step ((first
      | (go_at_call 25; exact fam_call (q25 _))
      | (go_at_call 26; exact fam_call (q26 _)))))
    first | refine wpQuiet_nil ?_ | (go_big_quiet_want; go_big_quiet_op; done)
    rintro _ ⟨xq, rfl⟩
    go_wp2_with fail
    go_ret
    exact ⟨rfl, HF2.out.trans xq.fr⟩
theorem rppar_any (s : ByteArray) (hs : s.size ≤ 1048576) : Calls Tryz.prog 6 #[.string s] w fun e w' => e = .returned (.tuple #[pxV (plP s).1, .int .i64 (plP s).2]) ∧ Fr N0 w w' := by
  have hlen : s.data.toList.length = s.size := Lib.size_eq s
  unfold plP
  rcases sl_find s with ⟨h1, h2⟩ | ⟨p, hp, h1, h47, hn⟩
  · have hc : Lib.cut s.data.toList [47] = (s.data.toList, [], false) := by
      unfold Lib.cut
      rw [h1, if_neg (by omega)]
    rw [hc]
    exact rpp_no s hs h2
  · have hc : Lib.cut s.data.toList [47] = (s.data.toList.take p, s.data.toList.drop (p + 1), true) := by
      unfold Lib.cut
      rw [if_pos (by omega), h1]
      rfl
    have e0 : s.extract 0 p = bA (s.data.toList.take p) := by
      rw [ext_bA, List.drop_zero]
      rfl
    have e1 : (s.extract (p + 1) s.size).data.toList = s.data.toList.drop (p + 1) := by
      rw [ext_bA, bA_list, List.take_of_length_le (by rw [List.length_drop]; omega)]
    have hz : (s.extract 0 p).size ≤ 1048576 := by
      rw [ByteArray.size_extract]
      omega
    have k := fun (W : World) => rparse_any (w := W) (s.extract 0 p) hz
    rw [hc]
    simp only
    rw [if_neg (by decide), ← e0, ← e1]
    rcases parse_short (s.extract 0 p) with ⟨h2, _, ho, _⟩ | e
    · rw [h2] at k
      rw [if_neg (by rw [h2]; decide)]
      exact rpp_ok s hs p hp h47 hn _ ho _ rfl k
    · rw [e] at k ⊢
      simp only at k ⊢
      rw [if_pos (by decide)]
      exact rpp_err s hs p hp h47 hn k
end
end Go.Proofs.YtcameghlkplgfaaGreatDoor
namespace Go.Proofs.YtcameghlkplgfaaGreatDoor
open Go.Proofs Go.Shelf Go.RowKit
/-- What is known of the cells of the calls. -/
structure PtIn (w : World) (m : Int) : Prop where
  m : Mx m w
  t : T10 w
  d : D4 w
  s : Sy w
theorem PtIn.fr {w W : World} {m : Int} (h : PtIn w m) (hF : Fr N0 w W) : PtIn W m := ⟨h.m.fr hF, h.t.fr hF, h.d.fr hF, h.s.fr hF⟩
set_option maxHeartbeats 6400000 in
set_option maxRecDepth 100000 in
theorem ptx_key (w : World) (s : ByteArray) (hs : s.size ≤ 1048576) (p : Px) (hp : p.ok) (m : Int) (hi : PtIn w m) :
    Calls Tryz.prog 3 #[.string s, pxV p] w fun e w' => e = .returned (.bool true) ∧ Fr N0 w w' := by
  have ka := fun (W : World) (h : Fr N0 w W) => awake_any (w := W) m (hi.fr h).m (hi.fr h).t
  have kt := fun (W : World) (h : Fr N0 w W) => pprt_ (w := W) p hp (hi.fr h).t (hi.fr h).d
  have kr := fun (W : World) => rpprt (w := W) p hp
  have ks := fun (W : World) (h : Fr N0 w W) => ppar_any (w := W) s m (by omega) (hi.fr h).m (hi.fr h).s
  have kd := fun (W : World) => rppar_any (w := W) s hs
  obtain ⟨Q, F0, eQ⟩ : ∃ Q F0, plP s = (Q, F0) := ⟨_, _, rfl⟩
  rw [eQ] at ks kd
  simp only at ks kd
  have hT : (pxS p).size ≤ 104 := by
    unfold pxS
    split
    · rename_i hv
      have h1 := txtA_size' p.ad
      obtain ⟨b1, b2⟩ := validP_bits hv
      have hI : (Lib.itoa p.bits).length ≤ 3 := by
        obtain ⟨u, hu⟩ := Int.eq_ofNat_of_zero_le b1
        rw [hu, Lib.itoa_nonneg]
        exact dd_le3 (by omega)
      unfold pxT
      rw [ByteArray.size_append, ByteArray.size_append]
      have e2 : (⟨(Lib.itoa p.bits).toArray⟩ : ByteArray).size = (Lib.itoa p.bits).length := by simp [ByteArray.size]
      have e1 : (⟨#[47]⟩ : ByteArray).size = 1 := rfl
      omega
    · decide
  generalize pxS p = T at *
  have qA := fun (W : World) => eql_px Q Q W
  rw [decide_eq_true rfl] at qA
  have qG := fun A B (W : World) => guard_px .eql A B Q Q W
  clear eQ hp hs hi
  obtain ⟨⟨p1, p2, p3⟩, p4⟩ := p
  obtain ⟨⟨q1, q2, q3⟩, q4⟩ := Q
  unfold pxV at *
  simp only at *
  have KA := Lib.hid ka
  have KT := Lib.hid kt
  have KR := Lib.hid kr
  have KS := Lib.hid ks
  have KD := Lib.hid kd
  clear ka kt kr ks kd
  go_enter Tryz.func3, Tryz.ntmps3
  go_wp2_with fail
  have HA1 := Lib.hid (Blk.new w 26 #[Value.bool p1, Value.int .u64 (p2 : Int), Value.int .u64 (p3 : Int), Value.int .i64 p4])
  have HF1 := Lib.hid (Fr.alloc (Fr.refl N0 w) (.cells #[Value.bool p1, Value.int .u64 (p2 : Int), Value.int .u64 (p3 : Int), Value.int .i64 p4] 26))
  generalize w.alloc _ = w1 at *
  obtain ⟨g1, hg1⟩ : ∃ g1, g1 = w.heap.size := ⟨_, rfl⟩
  rw [← hg1] at HA1 ⊢
  have HG1 : Hid (w.heap.size ≤ g1) := Lib.hid (by omega)
  clear hg1
  have HZ1 : Hid (∀ W, Fr N0 w1 W → Blk W g1 26 #[Value.bool p1, Value.int .u64 (p2 : Int), Value.int .u64 (p3 : Int), Value.int .i64 p4]) := Lib.hid fun W hf => HA1.out.fr hf id
  have F := Lib.hid (Fr.refl N0 w1)
  refine (KA.out _ HF1.out).mono ?_
  rintro e w2 ⟨rfl, hf⟩
  have F2 := Lib.hid (F.out.trans hf)
  clear hf
  go_wp2_with fail
  refine (KS.out _ (HF1.out.trans F2.out)).mono ?_
  rintro e w3 ⟨rfl, hf⟩
  have F3 := Lib.hid ((F2.out.trans hf).alloc (.cells #[.bool q1, .int .u64 (q2 : Int), .int .u64 (q3 : Int), .int .i64 q4] 26))
  have B3 := Lib.hid (Blk.new w3 26 #[.bool q1, .int .u64 (q2 : Int), .int .u64 (q3 : Int), .int .i64 q4])
  clear hf
  go_wp2_with fail
  generalize w3.alloc _ = w4 at *
  generalize w3.heap.size = g4 at *
  refine (KD.out _).mono ?_
  rintro e w5 ⟨rfl, hf⟩
  have F5 := Lib.hid ((F3.out.trans hf).alloc (.cells #[.bool q1, .int .u64 (q2 : Int), .int .u64 (q3 : Int), .int .i64 q4] 26))
  have B5 := Lib.hid ((B3.out.fr hf id).alloc (.cells #[.bool q1, .int .u64 (q2 : Int), .int .u64 (q3 : Int), .int .i64 q4] 26))
  have B6 := Lib.hid (Blk.new w5 26 #[.bool q1, .int .u64 (q2 : Int), .int .u64 (q3 : Int), .int .i64 q4])
  clear hf
  go_upto_region 4 with fail
  generalize w5.alloc _ = w6 at *
  generalize w5.heap.size = g6 at *
  have y0 := fun x : Fam w6 => (B5.out.fr x.fr id).c4.1
  have y1 := fun x : Fam w6 => (B5.out.fr x.fr id).c4.2.1
  have y2 := fun x : Fam w6 => (B5.out.fr x.fr id).c4.2.2.1
  have y3 := fun x : Fam w6 => (B5.out.fr x.fr id).c4.2.2.2
  have b0 := fun x : Fam w6 => (B6.out.fr x.fr id).c4.1
  have b1 := fun x : Fam w6 => (B6.out.fr x.fr id).c4.2.1
  have b2 := fun x : Fam w6 => (B6.out.fr x.fr id).c4.2.2.1
  have b3 := fun x : Fam w6 => (B6.out.fr x.fr id).c4.2.2.2
  have z0 := fun x : Fam w6 => (HZ1.out x.w (F5.out.trans x.fr)).c4.1
  have z1 := fun x : Fam w6 => (HZ1.out x.w (F5.out.trans x.fr)).c4.2.1
  have z2 := fun x : Fam w6 => (HZ1.out x.w (F5.out.trans x.fr)).c4.2.2.1
  have z3 := fun x : Fam w6 => (HZ1.out x.w (F5.out.trans x.fr)).c4.2.2.2
  have qt := fun x : Fam w6 => KT.out x.w (HF1.out.trans (F5.out.trans x.fr))
  have qr := fun x : Fam w6 => KR.out x.w
  refine wp_region_fam (by kernel_rfl) (by kernel_rfl) ?_
  repeat (go_big_quiet_step ((first
    | (go_at_call 7; exact fam_call (qt _))
    | (go_at_call 8; exact fam_call (qr _)))))
  first | refine wpQuiet_nil ?_ | (go_big_quiet_want; go_big_quiet_op; done)
  rintro _ ⟨xq, rfl⟩
  go_wp2_with fail
  go_ret
  exact ⟨rfl, HF1.out.trans (F5.out.trans xq.fr)⟩
theorem ptx_walk (W : World) (hS : W.ShapedOpen Tryz.prog) (ht : T10 W ∧ D4 W ∧ Sy W) (s : ByteArray) (hs : s.size ≤ 1048576) (A : Array Value) (ra : Rd Tryz.prog W 26 A.toList) :
    Calls Tryz.prog 3 #[.string s, .agg A] W fun e w' => e = .returned (.bool true) ∧ Below W.heap.size W w' := by
  obtain ⟨p, ep, hp⟩ := rd_px ra
  rw [px_arr ep]
  obtain ⟨m, hm⟩ := mx_of hS
  exact (ptx_key W s hs p hp m ⟨hm, ht.1, ht.2.1, ht.2.2⟩).mono fun e w' ⟨he, hf⟩ => ⟨he, hf.below (Nat.le_refl _) fun _ _ h => h.elim⟩
end Go.Proofs.YtcameghlkplgfaaGreatDoor
