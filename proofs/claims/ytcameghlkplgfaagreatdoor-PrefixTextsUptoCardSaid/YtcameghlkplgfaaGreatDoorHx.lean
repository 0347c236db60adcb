/- A number of sixteen digits' base, of a short text: the library's own reading of it. -/
import Derived.Test.YtcameghlkplgfaaGreatDoorNu
import Derived.Lib.ConvBytes
import Derived.Laws.Strings3
namespace Go.Proofs.YtcameghlkplgfaaGreatDoor
open Go.Proofs Go.Shelf Go.RowKit Go.Lib
/-- The value of a digit; letters of either case. -/
def hexD (c : Nat) : Option Nat := if 48 ≤ c ∧ c ≤ 57 then some (c - 48) else if 97 ≤ c ||| 32 ∧ c ||| 32 ≤ 102 then some ((c ||| 32) - 87) else none
def hexG (acc : Nat) : List UInt8 → Option Nat
  | [] => some acc
  | c :: r => match hexD c.toNat with
    | some d => hexG (acc * 16 + d) r
    | none => none
theorem hexD_lt {c d : Nat} (h : hexD c = some d) : d < 16 := by
  unfold hexD at h
  split at h
  · cases h; omega
  · split at h
    · cases h; omega
    · cases h
/-- What the inner package answers. -/
def hexT : Option Nat → Value
  | some v => .tuple #[.int .u64 (v : Int), .nilIface]
  | none => .tuple #[.int .u64 0, .iface 104 (.int .i64 2)]
theorem or32 (c : Nat) (hc : c < 256) : bits .or .u8 (c : Int) 32 = ((c ||| 32 : Nat) : Int) := by
  have hx : c ||| 32 < 2 ^ 8 := Nat.or_lt_two_pow (by omega) (by omega)
  have h1 : (BitVec.ofInt 8 (c : Int)).toNat = c := by
    rw [BitVec.ofInt_natCast, BitVec.toNat_ofNat]; exact Nat.mod_eq_of_lt (by omega)
  have h2 : (BitVec.ofInt 8 (32 : Int)).toNat = 32 := by decide
  show IntKind.u8.wrap ((BitVec.ofInt 8 (c : Int) ||| BitVec.ofInt 8 32).toNat : Int) = _
  rw [BitVec.toNat_or, h1, h2, IntKind.wrap_u8]
  omega
theorem or_le_add : ∀ x, x < 256 → x ||| 32 ≤ x + 32 := by decide +kernel
section
variable {w : World}
theorem low8 (c : Nat) (hc : c < 256) : Calls Tryz.prog 75 #[.int .u8 (c : Int)] w fun e w' => e = .returned (.int .u8 ((c ||| 32 : Nat) : Int)) ∧ w = w' := by
  go_enter Tryz.func75, Tryz.ntmps75
  go_wp2
  go_ret
  exact ⟨ret_eq (or32 c hc), rfl⟩
set_option maxHeartbeats 6400000 in
set_option maxRecDepth 100000 in
theorem ipu16 (t : ByteArray) (hne : t.size ≠ 0) (hmax : t.size ≤ 4) : Calls Tryz.prog 59 #[.string t, .int .i64 16, .int .i64 64] w fun e w' => e = .returned (hexT (hexG 0 t.data.toList)) ∧ Fr N0 w w' := by
  have hemp : t.toList.isEmpty = false := by
    rw [← decide_eq_emptyBytes]
    exact decide_eq_false (fun h => hne (by rw [h]; rfl))
  have hcv := Lib.run_convert_string_bytes (P := Tryz.prog) w 9 53 5 t (u := .string) Tryz.underlying9 Tryz.underlying53 Tryz.underlying5
  have HF := Lib.hid (show Fr N0 w (Lib.bytesWorld w 5 t) from Fr.freeze (by unfold Lib.bytesCells; repeat first | exact Fr.refl _ _ | refine Fr.drew ?_ | refine Fr.alloc ?_ _) _ _ (Nat.le_refl _))
  have HB := Lib.hid fun (j : Nat) (hj : j < t.size) => Lib.bytesWorld_cell w 5 t j hj
  obtain ⟨W1, hW1⟩ : ∃ W1, W1 = Lib.bytesWorld w 5 t := ⟨_, rfl⟩
  rw [← hW1] at hcv HF HB
  obtain ⟨bs, hL⟩ : ∃ bs, bs = t.data.toList := ⟨_, rfl⟩
  have hLn : bs.length = t.size := by rw [hL, Lib.size_eq]
  rw [← hL] at HB ⊢
  have HLN := Lib.hid hLn
  have hmv : IntKind.u64.wrap (IntKind.u64.wrap 18446744073709551616 - 1) = 18446744073709551615 := by
    rw [IntKind.wrap_u64, IntKind.wrap_u64]
    decide
  clear hW1 hL hLn hne
  go_enter Tryz.func59, Tryz.ntmps59
  go_wp2_with fail
  go_loop [12, 13, 101] (fun vu vn vi => ∃ (k acc : Nat) (a : Int), vu = .bool false ∧ vn = .int .u64 a ∧ vi = .int .i64 k ∧ k ≤ t.size ∧ Hid (a = (acc : Int) ∧ acc < 16 ^ k ∧ hexG 0 bs = hexG acc (bs.drop k)))
    (fun _ _ vi => t.size - (RowKit.intOf vi).toNat)
  case atStart => exact ⟨0, 0, 0, rfl, rfl, rfl, by omega, rfl, by omega, rfl⟩
  case round =>
    obtain ⟨k, acc, a, rfl, rfl, rfl, hk, hh⟩ := hrel
    obtain ⟨ha, hacc, hdec⟩ := hh.out
    clear hh
    have h16 : 16 ^ k ≤ 65536 := Nat.le_trans (Nat.pow_le_pow_right (by omega) (show k ≤ 4 by omega)) (by decide)
    have a0 : 0 ≤ a := by omega
    have a1 : a < 65536 := by omega
    by_cases hkn : k < t.size
    · have hc := HB.out k hkn
      have hl := HLN.out
      have hdrop : bs.drop k = bs[k]'(by omega) :: bs.drop (k + 1) := List.drop_eq_getElem_cons (by omega)
      have hget : bs.getD k 0 = bs[k]'(by omega) := by simp [List.getD, List.getElem?_eq_getElem (show k < bs.length by omega)]
      rw [hdrop] at hdec
      rw [hget] at hc
      generalize bs[k]'(by omega) = ch at hc hdec
      obtain ⟨c, hcc⟩ : ∃ c, c = ch.toNat := ⟨_, rfl⟩
      have hc256 : c < 256 := by rw [hcc]; exact ch.toNat_lt
      rw [← hcc] at hc
      clear hdrop hget hl
      have kl := fun w => low8 (w := w) c hc256
      obtain ⟨y, hy⟩ : ∃ y, y = c ||| 32 := ⟨_, rfl⟩
      rw [← hy] at kl
      have hstep : ∀ d, hexD c = some d → hexG 0 bs = hexG (acc * 16 + d) (bs.drop (k + 1)) := by
        intro d hd
        rw [hdec]
        simp only [hexG]
        rw [← hcc, hd]
      have hstop : hexD c = none → hexG 0 bs = none := by
        intro hd
        rw [hdec]
        simp only [hexG]
        rw [← hcc, hd]
      have HST := Lib.hid hstep
      have HSP := Lib.hid hstop
      have HA := Lib.hid (show a = (acc : Int) ∧ acc < 16 ^ k from ⟨ha, hacc⟩)
      have HY := Lib.hid hy
      have hD := Lib.hid (show hexD c = if 48 ≤ c ∧ c ≤ 57 then some (c - 48) else if 97 ≤ y ∧ y ≤ 102 then some (y - 87) else none by rw [hy]; rfl)
      have hyc : c ≤ y := by rw [hy]; exact Nat.left_le_or
      have hy256 : y < 256 := by rw [hy]; exact Nat.or_lt_two_pow (n := 8) (by omega) (by omega)
      clear hstep hstop hdec ha hacc h16 hy hcc
      by_cases hdig : 48 ≤ c ∧ c ≤ 57
      · obtain ⟨hd0, hd1⟩ := hdig
        have hS := HST.out (c - 48) (by rw [hD.out, if_pos ⟨hd0, hd1⟩])
        have HN : Hid (a * 16 + ((c : Int) - 48) = ((acc * 16 + (c - 48) : Nat) : Int) ∧ acc * 16 + (c - 48) < 16 ^ (k + 1) ∧ hexG 0 bs = hexG (acc * 16 + (c - 48)) (bs.drop (k + 1))) := Lib.hid ⟨by have := HA.out.1; omega, by have := HA.out.2; rw [Nat.pow_succ]; omega, hS⟩
        clear hS
        go_wp2
        refine ⟨⟨k + 1, acc * 16 + (c - 48), a * 16 + ((c : Int) - 48), rfl, (by first | rfl | (congr 1; omega)), (by first | rfl | (congr 1; omega)), by omega, HN⟩, by simp [RowKit.intOf]; omega⟩
      · have hyc2 : y ≤ c + 32 := by rw [HY.out]; exact or_le_add c hc256
        by_cases hlet : 97 ≤ y ∧ y ≤ 122
        · obtain ⟨hl0, hl1⟩ := hlet
          have hcd : 57 < c := by omega
          have hc95 : c ≠ 95 := by
            rintro rfl
            have h := HY.out
            have h2 : (95 : Nat) ||| 32 = 127 := by decide
            rw [h2] at h
            omega
          have e95 : ((c : Int) == 95) = false := by simp; omega
          have d95 : decide ((c : Int) = 95) = false := decide_eq_false (by omega)
          clear hc95
          by_cases hhex : y ≤ 102
          · have hS := HST.out (y - 87) (by rw [hD.out, if_neg hdig, if_pos ⟨hl0, hhex⟩])
            have HN : Hid (a * 16 + ((y : Int) - 97 + 10) = ((acc * 16 + (y - 87) : Nat) : Int) ∧ acc * 16 + (y - 87) < 16 ^ (k + 1) ∧ hexG 0 bs = hexG (acc * 16 + (y - 87)) (bs.drop (k + 1))) := Lib.hid ⟨by have := HA.out.1; omega, by have := HA.out.2; rw [Nat.pow_succ]; omega, hS⟩
            clear hS hdig
            go_wp2_with (go_at_call 75; refine (kl _).mono ?_; rintro e w' ⟨rfl, rfl⟩)
            refine ⟨⟨k + 1, acc * 16 + (y - 87), a * 16 + ((y : Int) - 97 + 10), rfl, (by first | rfl | (congr 1; omega)), (by first | rfl | (congr 1; omega)), by omega, HN⟩, by simp [RowKit.intOf]; omega⟩
          · have hS := HSP.out (by rw [hD.out, if_neg hdig, if_neg (by omega)])
            have HS := Lib.hid hS
            clear hS hdig
            go_wp2_with (go_at_call 75; refine (kl _).mono ?_; rintro e w' ⟨rfl, rfl⟩)
            go_ret2
            exact ⟨by rw [HS.out]; rfl, HF.out⟩
        · have hS := HSP.out (by rw [hD.out, if_neg hdig, if_neg (by omega)])
          have HS := Lib.hid hS
          have hcd : c < 48 ∨ 57 < c := by omega
          have hld : y < 97 ∨ 122 < y := by omega
          clear hS hdig hlet
          by_cases hc95 : c = 95
          · have hy127 : y = 127 := by rw [HY.out, hc95]; rfl
            subst hc95
            subst hy127
            clear HY hcd hld
            go_wp2_with (go_at_call 75; refine (kl _).mono ?_; rintro e w' ⟨rfl, rfl⟩)
            go_ret2
            exact ⟨by rw [HS.out]; rfl, HF.out⟩
          · have e95 : ((c : Int) == 95) = false := by simp; omega
            have d95 : decide ((c : Int) = 95) = false := decide_eq_false (by omega)
            clear hc95
            rcases hcd with hcd | hcd <;> rcases hld with hld | hld
            all_goals
              go_wp2_with (go_at_call 75; refine (kl _).mono ?_; rintro e w' ⟨rfl, rfl⟩)
              all_goals go_ret2
              all_goals exact ⟨by rw [HS.out]; rfl, HF.out⟩
    · have hkk : k = t.size := by omega
      subst hkk
      have hS : hexG 0 bs = some acc := by
        rw [hdec, List.drop_eq_nil_of_le (by have := HLN.out; omega)]
        rfl
      have HS := Lib.hid hS
      have HA := Lib.hid ha
      clear hS hdec hacc ha
      go_wp2
      go_ret2
      exact ⟨by rw [HS.out, HA.out]; rfl, HF.out⟩
end
end Go.Proofs.YtcameghlkplgfaaGreatDoor
