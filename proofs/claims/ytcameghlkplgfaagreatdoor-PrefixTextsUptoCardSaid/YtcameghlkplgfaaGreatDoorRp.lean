/- The document's Put of a number's bytes. -/
import Derived.Test.YtcameghlkplgfaaGreatDoorBy
import Derived.Test.YtcameghlkplgfaaGreatDoorApm
namespace Go.Proofs.YtcameghlkplgfaaGreatDoor
open Go.RowKit
/-- The bytes of a number, so many, the greatest ahead. -/
def byN (k n : Nat) : List Nat := (List.range k).map fun i => n / 256 ^ (k - 1 - i) % 256
theorem byN_len (k n : Nat) : (byN k n).length = k := by simp [byN]
theorem byN_take {k n j : Nat} (h : j < k) : (byN k n).take (j + 1) = (byN k n).take j ++ [n / 256 ^ (k - 1 - j) % 256] := by
  rw [List.take_add_one]
  congr 1
  unfold byN
  rw [List.getElem?_map, List.getElem?_range h]
  rfl
/-- A slice that reads as these bytes. -/
def Sr (w : World) (v : Value) (L : List Nat) : Prop :=
  ∃ A c, v = .slice A L.length c ∧ ((A = none ∧ L = [] ∧ c = 0) ∨ ∃ b off, A = some ⟨b, off, none⟩ ∧ ∀ j x, L[j]? = some x → w.cell? ⟨b, off + j, none⟩ = some (u8v x))
theorem Sr.nil_ (w : World) : Sr w (.slice none 0 0) [] := ⟨none, 0, rfl, .inl ⟨rfl, rfl, rfl⟩⟩
theorem Bx.sr {w wr : World} {v : Value} {L : List Nat} (h : Bx w wr v L) : Sr wr v L := by
  obtain ⟨A, c, rfl, hO, hg, hF⟩ := h
  rcases hO.2 with ⟨rfl, h0, rfl⟩ | ⟨g, cur, rfl, hg', hnc, hcm, hcs, ht⟩
  · exact ⟨none, 0, rfl, .inl ⟨rfl, List.length_eq_zero_iff.1 h0, rfl⟩⟩
  · refine ⟨_, c, rfl, .inr ⟨g, 0, rfl, fun j x hj => ?_⟩⟩
    have hl : j < L.length := (List.getElem?_eq_some_iff.1 hj).1
    have := hO.cell j (by omega)
    rw [List.getElem?_map, hj] at this
    rw [Nat.zero_add]
    exact this
theorem addr_add (b o j : Nat) : (⟨b, o, none⟩ : Addr).add j = ⟨b, o + j, none⟩ := by
  unfold Addr.add
  by_cases h0 : j = 0
  · subst h0; simp
  · rw [if_neg h0]
theorem div_step (n c : Nat) : n / 256 ^ c / 256 = n / 256 ^ (c + 1) := by rw [Nat.pow_succ, ← Nat.div_div_eq_div_mul]
section
variable {w : World}
set_option maxHeartbeats 3200000 in
set_option maxRecDepth 100000 in
theorem rput (v : Value) (L : List Nat) (hv : Sr w v L) (hL : L.length ≤ 1000000) (k n : Nat) (hk1 : 1 ≤ k) (hk : k ≤ 8) (hn : n < 18446744073709551616) :
    Calls Tryz.prog 69 #[v, .int .i64 (k : Int), .int .u64 (n : Int)] w fun e w' => ∃ v', e = .returned v' ∧ Bx w w' v' (L ++ byN k n) := by
  obtain ⟨i0, hi, hz0, hz1, hz2⟩ := info_parts info5
  obtain ⟨A0, c0, rfl, hA⟩ := hv
  have h0 : (0 : Int) ≤ (k : Int) := by omega
  rcases hA with ⟨rfl, hL0, rfl⟩ | ⟨b, off, rfl, hc⟩
  · have hB : Bx w w (.slice none 0 0) L := by rw [hL0]; exact Bx.nil_ w
    have e0 : L.length = 0 := by rw [hL0]; rfl
    rw [e0]
    clear hL0 e0
    go_enter Tryz.func69, Tryz.ntmps69
    go_wp2_with (at_builtin; refine wpList_append0 w rfl (.tmp 11) (.tmp 12) 53 rfl 5 i0 Tryz.underlying53 hi none 0 0 [] rfl (Own.nil_ _ _ 1) rfl ?_)
    have HB := Lib.hid hB
    clear hB
    go_loopw [7, 8] (fun v i wr => ∃ q : Nat, q ≤ k ∧ i = .int .i64 ((q : Int) - 1) ∧ Bx w wr v (L ++ (byN k n).take (k - q))) (fun _ i _ => (RowKit.intOf i + 1).toNat)
    case atStart => exact ⟨k, Nat.le_refl _, rfl, by rw [Nat.sub_self, List.take_zero, List.append_nil]; exact HB.out⟩
    case round =>
      obtain ⟨q, hq, rfl, A, c, rfl, hO, hg, hF⟩ := hrel
      obtain ⟨M, hM⟩ : ∃ M, M = L ++ (byN k n).take (k - q) := ⟨_, rfl⟩
      rw [← hM] at hO ⊢
      have hlen : M.length = L.length + (k - q) := by rw [hM, List.length_append, List.length_take, byN_len]; omega
      obtain ⟨N, hN⟩ : ∃ N, N = M.length := ⟨_, rfl⟩
      rw [← hN] at hO ⊢
      have hN2 : N ≤ 1000008 := by omega
      have HN := Lib.hid hN
      have HM := Lib.hid hM
      have O1 := Lib.hid hO
      have G1 := Lib.hid hg
      have F1 := Lib.hid hF
      clear hO hg hF hM hlen hN
      rcases Nat.eq_zero_or_pos q with rfl | hq0
      · go_wp2_with fail
        go_ret
        refine ⟨_, rfl, ?_⟩
        have e : M = L ++ byN k n := by rw [HM.out, Nat.sub_zero, List.take_of_length_le (by rw [byN_len]; omega)]
        exact Bx.mk' HN.out.symm e O1.out G1.out F1.out
      · obtain ⟨r, rfl⟩ : ∃ r, q = r + 1 := ⟨q - 1, by omega⟩
        have er : (((r + 1 : Nat) : Int) - 1) = (r : Int) := by omega
        rw [er]
        clear er
        go_wp2_with fail
        go_loop [9, 10] (fun x i => ∃ j : Nat, j ≤ r ∧ i = .int .i64 (j : Int) ∧ x = .int .u64 ((n / 256 ^ j : Nat) : Int)) (fun _ i => r - (RowKit.intOf i).toNat)
        case atStart => exact ⟨0, Nat.zero_le _, rfl, by rw [Nat.pow_zero, Nat.div_one]⟩
        case round =>
          obtain ⟨j, hj, rfl, rfl⟩ := hrel
          have hle : n / 256 ^ j ≤ n := Nat.div_le_self _ _
          have HD := Lib.hid (div_step n j)
          obtain ⟨x, hx⟩ : ∃ x, x = n / 256 ^ j := ⟨_, rfl⟩
          rw [← hx] at hle HD ⊢
          have HX := Lib.hid hx
          clear hx
          by_cases hjr : j < r
          · have hjI : (j : Int) < (r : Int) := by omega
            go_wp2_with fail
            go_round
            case rel => exact ⟨j + 1, by omega, by go_num, by rw [← HD.out]; go_num⟩
            case measure => simp [RowKit.intOf]; omega
          · obtain rfl : j = r := by omega
            go_wp2_with (at_builtin; refine wpList_append1 wr rfl (.tmp 30) (.tmp 34) 53 rfl 5 i0 (.int .u8 0) 1 1 Tryz.underlying53 hi hz0 hz1 hz2 rfl (by omega) A N c _ rfl O1.out [.int .u8 ((x : Int) % 256)] rfl rfl ?_ ?_ ?_ ?_)
            · simp [Value.oneCell']
            · omega
            · omega
            · intro g' c' w' hO' hF' hA'
              have HB := Lib.hid (Bx.step G1.out F1.out HN.out.symm hO' hF' hA' (show _ = ((x % 256 : Nat) : Int) by omega))
              clear hO' hF' hA'
              go_wp2_with fail
              go_roundw
              case rel =>
                have e : M ++ [x % 256] = L ++ (byN k n).take (k - j) := by
                  rw [HM.out, HX.out, show k - j = (k - (j + 1)) + 1 by omega, byN_take (by omega), List.append_assoc, show k - 1 - (k - (j + 1)) = j by omega]
                exact ⟨j, by omega, by go_num, by rw [← e]; exact HB.out⟩
              case measure => simp [RowKit.intOf]
  · have HC := Lib.hid hc
    clear hc
    go_enter Tryz.func69, Tryz.ntmps69
    go_wp2_with (at_builtin; refine wpList_appendM w rfl (.tmp 11) (.tmp 12) 53 rfl 5 i0 _ 1 1 Tryz.underlying53 hi hz0 hz1 hz2 rfl (by omega) none 0 0 [] rfl (Own.nil_ _ _ _) ⟨b, off, none⟩ L.length c0 (L.map u8v) rfl (by simp) ?_ ?_ ?_ ?_ ?_)
    · intro j u hj
      rw [addr_add]
      rw [List.getElem?_map] at hj
      cases hx : L[j]? with
      | none => rw [hx] at hj; cases hj
      | some x => rw [hx] at hj; cases hj; exact HC.out j x hx
    · intro u hu
      obtain ⟨x, _, rfl⟩ := List.mem_map.1 hu
      rfl
    · omega
    · omega
    intro A1 c1 w1 hO1 hF1 hA1
    have hB : Bx w w1 (.slice A1 L.length c1) L := ⟨A1, c1, rfl, hO1, fun g e => by
      rcases hA1 with h | ⟨g', h, h2⟩
      · rw [h] at e; cases e
      · rw [h] at e; cases e; exact h2, hF1.mono fun i _ h => by cases h⟩
    clear hO1 hF1 hA1
    go_wp2_with fail
    have HB := Lib.hid hB
    clear hB
    go_loopw [7, 8] (fun v i wr => ∃ q : Nat, q ≤ k ∧ i = .int .i64 ((q : Int) - 1) ∧ Bx w wr v (L ++ (byN k n).take (k - q))) (fun _ i _ => (RowKit.intOf i + 1).toNat)
    case atStart => exact ⟨k, Nat.le_refl _, rfl, by rw [Nat.sub_self, List.take_zero, List.append_nil]; exact HB.out⟩
    case round =>
      obtain ⟨q, hq, rfl, A, c, rfl, hO, hg, hF⟩ := hrel
      obtain ⟨M, hM⟩ : ∃ M, M = L ++ (byN k n).take (k - q) := ⟨_, rfl⟩
      rw [← hM] at hO ⊢
      have hlen : M.length = L.length + (k - q) := by rw [hM, List.length_append, List.length_take, byN_len]; omega
      obtain ⟨N, hN⟩ : ∃ N, N = M.length := ⟨_, rfl⟩
      rw [← hN] at hO ⊢
      have hN2 : N ≤ 1000008 := by omega
      have HN := Lib.hid hN
      have HM := Lib.hid hM
      have O1 := Lib.hid hO
      have G1 := Lib.hid hg
      have F1 := Lib.hid hF
      clear hO hg hF hM hlen hN
      rcases Nat.eq_zero_or_pos q with rfl | hq0
      · go_wp2_with fail
        go_ret
        refine ⟨_, rfl, ?_⟩
        have e : M = L ++ byN k n := by rw [HM.out, Nat.sub_zero, List.take_of_length_le (by rw [byN_len]; omega)]
        exact Bx.mk' HN.out.symm e O1.out G1.out F1.out
      · obtain ⟨r, rfl⟩ : ∃ r, q = r + 1 := ⟨q - 1, by omega⟩
        have er : (((r + 1 : Nat) : Int) - 1) = (r : Int) := by omega
        rw [er]
        clear er
        go_wp2_with fail
        go_loop [9, 10] (fun x i => ∃ j : Nat, j ≤ r ∧ i = .int .i64 (j : Int) ∧ x = .int .u64 ((n / 256 ^ j : Nat) : Int)) (fun _ i => r - (RowKit.intOf i).toNat)
        case atStart => exact ⟨0, Nat.zero_le _, rfl, by rw [Nat.pow_zero, Nat.div_one]⟩
        case round =>
          obtain ⟨j, hj, rfl, rfl⟩ := hrel
          have hle : n / 256 ^ j ≤ n := Nat.div_le_self _ _
          have HD := Lib.hid (div_step n j)
          obtain ⟨x, hx⟩ : ∃ x, x = n / 256 ^ j := ⟨_, rfl⟩
          rw [← hx] at hle HD ⊢
          have HX := Lib.hid hx
          clear hx
          by_cases hjr : j < r
          · have hjI : (j : Int) < (r : Int) := by omega
            go_wp2_with fail
            go_round
            case rel => exact ⟨j + 1, by omega, by go_num, by rw [← HD.out]; go_num⟩
            case measure => simp [RowKit.intOf]; omega
          · obtain rfl : j = r := by omega
            go_wp2_with (at_builtin; refine wpList_append1 wr rfl (.tmp 30) (.tmp 34) 53 rfl 5 i0 (.int .u8 0) 1 1 Tryz.underlying53 hi hz0 hz1 hz2 rfl (by omega) A N c _ rfl O1.out [.int .u8 ((x : Int) % 256)] rfl rfl ?_ ?_ ?_ ?_)
            · simp [Value.oneCell']
            · omega
            · omega
            · intro g' c' w' hO' hF' hA'
              have HB := Lib.hid (Bx.step G1.out F1.out HN.out.symm hO' hF' hA' (show _ = ((x % 256 : Nat) : Int) by omega))
              clear hO' hF' hA'
              go_wp2_with fail
              go_roundw
              case rel =>
                have e : M ++ [x % 256] = L ++ (byN k n).take (k - j) := by
                  rw [HM.out, HX.out, show k - j = (k - (j + 1)) + 1 by omega, byN_take (by omega), List.append_assoc, show k - 1 - (k - (j + 1)) = j by omega]
                exact ⟨j, by omega, by go_num, by rw [← e]; exact HB.out⟩
              case measure => simp [RowKit.intOf]
end
end Go.Proofs.YtcameghlkplgfaaGreatDoor
