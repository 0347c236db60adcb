/- The document's Class and Solicited of any address. -/
import Derived.Test.YtnklbeigikcfkaaGreatDoorCs
import Derived.Test.YtnklbeigikcfkaaGreatDoorGh
namespace Go.Proofs.YtnklbeigikcfkaaGreatDoor
open Go.Proofs Go.Shelf Go.RowKit
theorem own_bytes {w : World} {A : Option Addr} {n c : Nat} {bs : List Nat} (h : Own w 5 1 A n c (bs.map u8v)) (hn : 0 < n) : ∃ g, A = some ⟨g, 0, none⟩ ∧ ∀ (i x : Nat), bs[i]? = some x → w.cell? ⟨g, i, none⟩ = some (.int .u8 (x : Int)) := by
  rcases h.2 with ⟨_, h0, _⟩ | ⟨g, cur, e, hg, _, _, _, ht⟩
  · omega
  · refine ⟨g, e, fun i x hi => ?_⟩
    have hb : Blk w g 5 cur := hg
    have h1 : (cur.toList.take (n * 1))[i]? = some (u8v x) := by rw [ht, List.getElem?_map, hi]; rfl
    rw [List.getElem?_take] at h1
    split at h1
    · rw [Array.getElem?_toList] at h1
      exact (hb.cell i).trans h1
    · cases h1
theorem cls_hi (h l : Nat) (hh : h < 18446744073709551616) : clsA ⟨true, h, l⟩ = if h = 0 ∧ l = 0 then 0 else if h = 0 ∧ l = 1 then 1 else if byteA ⟨true, h, l⟩ 0 = 254 ∧ byteA ⟨true, h, l⟩ 1 / 64 = 2 then 2 else if byteA ⟨true, h, l⟩ 0 = 255 then 3 else 5 := by
  unfold clsA byteA validA
  simp
  repeat' split
  all_goals first | rfl | omega
theorem cls_lo (l : Nat) (hl : l < 4294967296) : clsA ⟨false, 0, l⟩ = if l = 0 then 0 else if byteA ⟨false, 0, l⟩ 0 = 127 then 1 else if byteA ⟨false, 0, l⟩ 0 = 169 ∧ byteA ⟨false, 0, l⟩ 1 = 254 then 2 else if l = 4294967295 then 4 else if byteA ⟨false, 0, l⟩ 0 / 16 = 14 then 3 else 5 := by
  unfold clsA byteA validA
  simp [hl]
  repeat' split
  all_goals first | rfl | omega
section
variable {w : World}
set_option maxHeartbeats 3200000 in
set_option maxRecDepth 100000 in
theorem rcls_ (a : Ad) (ho : a.ok) : Calls Tryz.prog 91 #[adV a] w fun e w' => e = .returned (.int .i64 (clsA a)) ∧ Fr N0 w w' := by
  obtain ⟨s, h, l⟩ := a
  have hby := fun (w : World) => rbyt (w := w) ⟨s, h, l⟩ ho
  obtain ⟨ho1, ho2⟩ := ho
  simp only at ho1 ho2
  have c29 : ∀ (w : World) {b : Bool}, validA ⟨s, h, l⟩ = b → Calls Tryz.prog 88 #[.agg #[.bool s, .int .u64 (h : Int), .int .u64 (l : Int)]] w fun e w' => e = .returned (.bool b) ∧ Fr N0 w w' := fun w b hb => hb ▸ rval (w := w) ⟨s, h, l⟩
  cases hv : validA ⟨s, h, l⟩ with
  | false =>
    have k29 := fun w => c29 w hv
    have hf : clsA ⟨s, h, l⟩ = -1 := by unfold clsA; rw [if_pos hv]
    rw [hf]
    clear c29 hv hf hby
    go_enter Tryz.func91, Tryz.ntmps91
    unfold adV
    go_wp2_with fail
    have HA1 := Lib.hid (Blk.new w 30 #[Value.bool s, Value.int .u64 (h : Int), Value.int .u64 (l : Int)])
    have HF1 := Lib.hid (Fr.alloc (Fr.refl N0 w) (.cells #[Value.bool s, Value.int .u64 (h : Int), Value.int .u64 (l : Int)] 30))
    generalize w.alloc _ = w1 at *
    obtain ⟨g1, hg1⟩ : ∃ g1, g1 = w.heap.size := ⟨_, rfl⟩
    rw [← hg1] at HA1 ⊢
    have HG1 : Hid (w.heap.size ≤ g1) := Lib.hid (by omega)
    clear hg1
    have HZ1 : Hid (∀ W, Fr N0 w1 W → Blk W g1 30 #[Value.bool s, Value.int .u64 (h : Int), Value.int .u64 (l : Int)]) := Lib.hid fun W hf => HA1.out.fr hf id
    have F := Lib.hid (Fr.refl N0 w1)
    obtain ⟨z1_0, z1_1, z1_2⟩ := (HZ1.out _ F.out).c3
    go_wp2_with (first
      | (go_at_call 88; refine (k29 _).mono ?_; rintro e w2 ⟨rfl, hf⟩; have F := Lib.hid (F.out.trans hf); obtain ⟨z1_0, z1_1, z1_2⟩ := (HZ1.out _ F.out).c3))
    go_ret
    exact ⟨rfl, HF1.out.trans F.out⟩
  | true =>
    have k29 := fun w => c29 w hv
    rw [if_pos hv] at hby
    unfold adV at hby
    have x256 := byteA_lt ⟨s, h, l⟩ 0
    have y256 := byteA_lt ⟨s, h, l⟩ 1
    have hx : (bytesA ⟨s, h, l⟩)[0]? = some (byteA ⟨s, h, l⟩ 0) := bytesA_at (by split <;> omega)
    have hy : (bytesA ⟨s, h, l⟩)[1]? = some (byteA ⟨s, h, l⟩ 1) := bytesA_at (by split <;> omega)
    have hlen := bytesA_len ⟨s, h, l⟩
    have hcls : clsA ⟨s, h, l⟩ = if s = true then (if h = 0 ∧ l = 0 then 0 else if h = 0 ∧ l = 1 then 1 else if byteA ⟨s, h, l⟩ 0 = 254 ∧ byteA ⟨s, h, l⟩ 1 / 64 = 2 then 2 else if byteA ⟨s, h, l⟩ 0 = 255 then 3 else 5) else if l = 0 then 0 else if byteA ⟨s, h, l⟩ 0 = 127 then 1 else if byteA ⟨s, h, l⟩ 0 = 169 ∧ byteA ⟨s, h, l⟩ 1 = 254 then 2 else if l = 4294967295 then 4 else if byteA ⟨s, h, l⟩ 0 / 16 = 14 then 3 else 5 := by
      cases s with
      | true => rw [cls_hi h l ho1]; rfl
      | false =>
        simp [validA] at hv
        obtain ⟨rfl, hv⟩ := hv
        rw [cls_lo l hv]
        rfl
    generalize bytesA ⟨s, h, l⟩ = bs at *
    generalize byteA ⟨s, h, l⟩ 0 = x at *
    generalize byteA ⟨s, h, l⟩ 1 = y at *
    generalize clsA ⟨s, h, l⟩ = r at *
    have HX := Lib.hid hx
    have HY := Lib.hid hy
    have HL := Lib.hid hlen
    have HC := Lib.hid hcls
    clear c29 hv hx hy hlen hcls
    go_enter Tryz.func91, Tryz.ntmps91
    unfold adV
    go_wp2_with fail
    have HA1 := Lib.hid (Blk.new w 30 #[Value.bool s, Value.int .u64 (h : Int), Value.int .u64 (l : Int)])
    have HF1 := Lib.hid (Fr.alloc (Fr.refl N0 w) (.cells #[Value.bool s, Value.int .u64 (h : Int), Value.int .u64 (l : Int)] 30))
    generalize w.alloc _ = w1 at *
    obtain ⟨g1, hg1⟩ : ∃ g1, g1 = w.heap.size := ⟨_, rfl⟩
    rw [← hg1] at HA1 ⊢
    have HG1 : Hid (w.heap.size ≤ g1) := Lib.hid (by omega)
    clear hg1
    have HZ1 : Hid (∀ W, Fr N0 w1 W → Blk W g1 30 #[Value.bool s, Value.int .u64 (h : Int), Value.int .u64 (l : Int)]) := Lib.hid fun W hf => HA1.out.fr hf id
    have F := Lib.hid (Fr.refl N0 w1)
    obtain ⟨z1_0, z1_1, z1_2⟩ := (HZ1.out _ F.out).c3
    go_wp2_with (first
      | (go_at_call 88; refine (k29 _).mono ?_; rintro e w2 ⟨rfl, hf⟩; have F := Lib.hid (F.out.trans hf); obtain ⟨z1_0, z1_1, z1_2⟩ := (HZ1.out _ F.out).c3))
    refine (hby _).mono ?_
    rintro e w3 ⟨v, rfl, A, c, rfl, hO, hg, hf⟩
    have HO := Lib.hid hO
    have F := Lib.hid (F.out.trans hf); obtain ⟨z1_0, z1_1, z1_2⟩ := (HZ1.out _ F.out).c3
    have hn : 2 ≤ bs.length := by rw [HL.out]; split <;> omega
    obtain ⟨gb, rfl, hcell⟩ := own_bytes HO.out (by omega)
    have y0 := hcell 0 x HX.out
    have y1 := hcell 1 y HY.out
    generalize bs.length = n at *
    clear hO hg hf hcell
    cases s with
    | true =>
      go_wp2_with fail
      all_goals go_ret
      all_goals refine ⟨ret_eq ?_, HF1.out.trans F.out⟩
      all_goals (clear k29 hby z1_0 z1_1 z1_2 y0 y1; rw [HC.out]; clear HC HX HY HL HO; simp only [beq_iff_eq, beq_eq_false_iff_ne, ne_eq] at *; simp; first | omega | ((repeat' split) <;> omega))
    | false =>
      go_wp2_with fail
      all_goals go_ret
      all_goals refine ⟨ret_eq ?_, HF1.out.trans F.out⟩
      all_goals (clear k29 hby z1_0 z1_1 z1_2 y0 y1; rw [HC.out]; clear HC HX HY HL HO; simp only [beq_iff_eq, beq_eq_false_iff_ne, ne_eq] at *; simp; first | omega | ((repeat' split) <;> omega))
end
end Go.Proofs.YtnklbeigikcfkaaGreatDoor
