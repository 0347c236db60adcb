/- prefix.Common. strconv.ParseUint, off the shelf. What the program calls of the standard library, off the shelf. addr.number, prefix.many: of texts that spell a number. A number of sixteen digits' base, of a short text: the library's own reading of it. addr.number and prefix.many of any text. addr.four, of a text that is four numbers. addr.four of any text. addr.Of of four bytes; Class and Solicited at one address. addr.Class and addr.Solicited of any address. addr.Of of any bytes. The document's Of of bytes. The document's Class and Solicited of any address. -/
import Derived.Test.YtejddfgmfdpnfaaDoorKa
import Derived.Deep.RegionHeld3
import Derived.Laws.Bits64
import Derived.WalkMore
import Derived.Test.YtejddfgmfdpnfaaDoorProg
import Derived.Shelf.Lay
import Derived.Shelf.Pu.ParseUintPublic10
import Derived.Ground.MpProg
import Derived.Ground.NamesProg
import Derived.Shelf.Strings.Cut
import Derived.Shelf.Strings.Split
import Derived.Shelf.Strings.OnBuilder
import Derived.Shelf.Strconv.Itoa3
import Derived.Lib.ConvBytes
import Derived.Laws.Strings3
import Derived.Shelf.Pu.ToError
import Derived.Test.YtejddfgmfdpnfaaDoorKp
namespace Go.Proofs.YtejddfgmfdpnfaaDoor
open Go.RowKit
/-- How many first bits two addresses have in common; -1: they are not alike. -/
def CmR (a b : Ad) (r : Int) : Prop := if validA a = true ∧ validA b = true ∧ a.six = b.six then ∃ n : Nat, r = (n : Int) ∧ CmnIs a b n else r = -1
theorem CmR.eq {a b : Ad} {r q : Int} (h : CmR a b r) (k : CmR a b q) : r = q := by
  unfold CmR at h k
  split at h
  · rename_i hc
    rw [if_pos hc] at k
    obtain ⟨n, rfl, h1⟩ := h
    obtain ⟨m, rfl, k1⟩ := k
    rw [h1.eq k1]
  · rename_i hc
    rw [if_neg hc] at k
    rw [h, k]
theorem xor_u8 (a b : Nat) (ha : a < 256) (hb : b < 256) : bits .xor .u8 (a : Int) (b : Int) = ((a ^^^ b : Nat) : Int) := by
  have hx : a ^^^ b < 2 ^ 8 := Nat.xor_lt_two_pow (by omega) (by omega)
  have h1 : (BitVec.ofInt 8 (a : Int)).toNat = a := by
    rw [BitVec.ofInt_natCast, BitVec.toNat_ofNat]; exact Nat.mod_eq_of_lt (by omega)
  have h2 : (BitVec.ofInt 8 (b : Int)).toNat = b := by
    rw [BitVec.ofInt_natCast, BitVec.toNat_ofNat]; exact Nat.mod_eq_of_lt (by omega)
  show IntKind.u8.wrap ((BitVec.ofInt 8 (a : Int) ^^^ BitVec.ofInt 8 (b : Int)).toNat : Int) = _
  rw [BitVec.toNat_xor, h1, h2, IntKind.wrap_u8]
  omega
theorem Bx.fr' {w wr w' : World} {v : Value} {l : List Nat} (k : Bx w wr v l) (hF : Fr N0 wr w') : Bx w w' v l := by
  obtain ⟨A, c, h1, h2, h3, h4⟩ := k
  exact ⟨A, c, h1, h2.fr hF fun _ _ => id, h3, h4.trans hF⟩
section
variable {w : World}
end
end Go.Proofs.YtejddfgmfdpnfaaDoor
namespace Go.Proofs.YtejddfgmfdpnfaaDoor
open Go.Proofs Go.Shelf Go.RowKit Go.Lib
shelf_lay LaysPu.n14 Mp 14 at Tryd as Tryd.puL
end Go.Proofs.YtejddfgmfdpnfaaDoor
namespace Go.Proofs.YtejddfgmfdpnfaaDoor
open Go.Proofs Go.Shelf Go.RowKit Go.Lib
shelf_lay Lays.n145 Nm 145 at Tryd as Tryd.cutL
shelf_lay Lays.n146 Nm 146 at Tryd as Tryd.splitL
shelf_lay Lays.n156 Nm 156 at Tryd as Tryd.joinL
shelf_lay Lays.n283 Nm 283 at Tryd as Tryd.smallL
end Go.Proofs.YtejddfgmfdpnfaaDoor
namespace Go.Proofs.YtejddfgmfdpnfaaDoor
open Go.Proofs Go.Shelf Go.RowKit Go.Lib
theorem Fr.freeze {S : Nat → Prop} {a w : World} (h : Fr S a w) (ad : Addr) (n : Nat) (hn : a.heap.size ≤ ad.block) : Fr S a (w.freeze ad n) := by
  by_cases h0 : n = 0
  · unfold World.freeze
    rw [if_pos h0]
    exact h
  · have e : (w.freeze ad n).heap.size = w.heap.size := by simp [World.freeze, h0]
    refine ⟨?_, ?_, ?_, by rw [e]; exact h.size, fun i hi hS => ?_⟩
    · unfold World.freeze; rw [if_neg h0]; exact h.os
    · unfold World.freeze; rw [if_neg h0]; exact h.tape
    · unfold World.freeze; rw [if_neg h0]; exact h.output
    · refine Eq.trans ?_ (h.block i hi hS)
      unfold World.freeze
      rw [if_neg h0]
      show (w.heap.modify _ _)[i]? = _
      rw [Array.getElem?_modify, if_neg (by omega)]
section
variable {w : World}
set_option maxHeartbeats 1600000 in
set_option maxRecDepth 100000 in
theorem numb_ok (s : ByteArray) (u : Nat) (h0 : s.toList.isEmpty = false) (h3 : s.size ≤ 3) (h : Lib.parseUintB 64 s.data.toList = .ok u) : Calls Tryd.prog 46 #[.string s, .int .i64 10, .int .i64 3] w fun e w' => e = .returned (.tuple #[.int .u64 (u : Int), .bool true]) ∧ Fr N0 w w' := by
  have k58 : ∀ w : World, Calls Tryd.prog 56 #[.string s, .int .i64 10, .int .i64 64] w fun e w' => e = .returned (.tuple #[.int .u64 (u : Int), .nilIface]) ∧ Fr N0 w w' := by
    intro w
    refine (Any.strconv_ParseUint_10_at64_ok Tryd.puL s (by omega) u h w).mono ?_
    rintro e w' ⟨rfl, hw⟩
    refine ⟨rfl, ?_⟩
    rcases hw with rfl | rfl
    · exact Fr.refl _ _
    · exact Fr.freeze (by unfold Lib.bytesCells; repeat first | exact Fr.refl _ _ | refine Fr.drew ?_ | refine Fr.alloc ?_ _) _ _ (Nat.le_refl _)
  clear h
  have hd : decide (3 < (s.size : Int)) = false := by simp; omega
  go_enter Tryd.func46, Tryd.ntmps46
  go_wp2_with (go_at_call 56; refine (k58 _).mono ?_; rintro e w2 ⟨rfl, hf⟩)
  go_region
  all_goals go_wp2_with fail
  all_goals go_ret2
  all_goals exact ⟨rfl, hf.drew⟩
end
end Go.Proofs.YtejddfgmfdpnfaaDoor
namespace Go.Proofs.YtejddfgmfdpnfaaDoor
open Go.Proofs Go.Shelf Go.RowKit Go.Lib
/-- The value of a digit; letters of either case. -/
def hexD (c : Nat) : Option Nat := if 48 ≤ c ∧ c ≤ 57 then some (c - 48) else if 97 ≤ c ||| 32 ∧ c ||| 32 ≤ 102 then some ((c ||| 32) - 87) else none
def hexG (acc : Nat) : List UInt8 → Option Nat
  | [] => some acc
  | c :: r => match hexD c.toNat with
    | some d => hexG (acc * 16 + d) r
    | none => none
theorem hexD_lt {c d : Nat} (h : hexD c = some d) : d < 16 := by
  unfold hexD at h
  split at h
  · cases h; omega
  · split at h
    · cases h; omega
    · cases h
/-- What the inner package answers. -/
def hexT : Option Nat → Value
  | some v => .tuple #[.int .u64 (v : Int), .nilIface]
  | none => .tuple #[.int .u64 0, .iface 110 (.int .i64 2)]
theorem or32 (c : Nat) (hc : c < 256) : bits .or .u8 (c : Int) 32 = ((c ||| 32 : Nat) : Int) := by
  have hx : c ||| 32 < 2 ^ 8 := Nat.or_lt_two_pow (by omega) (by omega)
  have h1 : (BitVec.ofInt 8 (c : Int)).toNat = c := by
    rw [BitVec.ofInt_natCast, BitVec.toNat_ofNat]; exact Nat.mod_eq_of_lt (by omega)
  have h2 : (BitVec.ofInt 8 (32 : Int)).toNat = 32 := by decide
  show IntKind.u8.wrap ((BitVec.ofInt 8 (c : Int) ||| BitVec.ofInt 8 32).toNat : Int) = _
  rw [BitVec.toNat_or, h1, h2, IntKind.wrap_u8]
  omega
theorem or_le_add : ∀ x, x < 256 → x ||| 32 ≤ x + 32 := by decide +kernel
section
variable {w : World}
theorem low8 (c : Nat) (hc : c < 256) : Calls Tryd.prog 80 #[.int .u8 (c : Int)] w fun e w' => e = .returned (.int .u8 ((c ||| 32 : Nat) : Int)) ∧ w = w' := by
  go_enter Tryd.func80, Tryd.ntmps80
  go_wp2
  go_ret
  exact ⟨ret_eq (or32 c hc), rfl⟩
set_option maxHeartbeats 6400000 in
set_option maxRecDepth 100000 in
theorem ipu16 (t : ByteArray) (hne : t.size ≠ 0) (hmax : t.size ≤ 4) : Calls Tryd.prog 67 #[.string t, .int .i64 16, .int .i64 64] w fun e w' => e = .returned (hexT (hexG 0 t.data.toList)) ∧ Fr N0 w w' := by
  have hemp : t.toList.isEmpty = false := by
    rw [← decide_eq_emptyBytes]
    exact decide_eq_false (fun h => hne (by rw [h]; rfl))
  have hcv := Lib.run_convert_string_bytes (P := Tryd.prog) w 9 30 5 t (u := .string) Tryd.underlying9 Tryd.underlying30 Tryd.underlying5
  have HF := Lib.hid (show Fr N0 w (Lib.bytesWorld w 5 t) from Fr.freeze (by unfold Lib.bytesCells; repeat first | exact Fr.refl _ _ | refine Fr.drew ?_ | refine Fr.alloc ?_ _) _ _ (Nat.le_refl _))
  have HB := Lib.hid fun (j : Nat) (hj : j < t.size) => Lib.bytesWorld_cell w 5 t j hj
  obtain ⟨W1, hW1⟩ : ∃ W1, W1 = Lib.bytesWorld w 5 t := ⟨_, rfl⟩
  rw [← hW1] at hcv HF HB
  obtain ⟨bs, hL⟩ : ∃ bs, bs = t.data.toList := ⟨_, rfl⟩
  have hLn : bs.length = t.size := by rw [hL, Lib.size_eq]
  rw [← hL] at HB ⊢
  have HLN := Lib.hid hLn
  have hmv : IntKind.u64.wrap (IntKind.u64.wrap 18446744073709551616 - 1) = 18446744073709551615 := by
    rw [IntKind.wrap_u64, IntKind.wrap_u64]
    decide
  clear hW1 hL hLn hne
  go_enter Tryd.func67, Tryd.ntmps67
  go_wp2_with fail
  go_loop [12, 13, 101] (fun vu vn vi => ∃ (k acc : Nat) (a : Int), vu = .bool false ∧ vn = .int .u64 a ∧ vi = .int .i64 k ∧ k ≤ t.size ∧ Hid (a = (acc : Int) ∧ acc < 16 ^ k ∧ hexG 0 bs = hexG acc (bs.drop k)))
    (fun _ _ vi => t.size - (RowKit.intOf vi).toNat)
  case atStart => exact ⟨0, 0, 0, rfl, rfl, rfl, by omega, rfl, by omega, rfl⟩
  case round =>
    obtain ⟨k, acc, a, rfl, rfl, rfl, hk, hh⟩ := hrel
    obtain ⟨ha, hacc, hdec⟩ := hh.out
    clear hh
    have h16 : 16 ^ k ≤ 65536 := Nat.le_trans (Nat.pow_le_pow_right (by omega) (show k ≤ 4 by omega)) (by decide)
    have a0 : 0 ≤ a := by omega
    have a1 : a < 65536 := by omega
    by_cases hkn : k < t.size
    · have hc := HB.out k hkn
      have hl := HLN.out
      have hdrop : bs.drop k = bs[k]'(by omega) :: bs.drop (k + 1) := List.drop_eq_getElem_cons (by omega)
      have hget : bs.getD k 0 = bs[k]'(by omega) := by simp [List.getD, List.getElem?_eq_getElem (show k < bs.length by omega)]
      rw [hdrop] at hdec
      rw [hget] at hc
      generalize bs[k]'(by omega) = ch at hc hdec
      obtain ⟨c, hcc⟩ : ∃ c, c = ch.toNat := ⟨_, rfl⟩
      have hc256 : c < 256 := by rw [hcc]; exact ch.toNat_lt
      rw [← hcc] at hc
      clear hdrop hget hl
      have kl := fun w => low8 (w := w) c hc256
      obtain ⟨y, hy⟩ : ∃ y, y = c ||| 32 := ⟨_, rfl⟩
      rw [← hy] at kl
      have hstep : ∀ d, hexD c = some d → hexG 0 bs = hexG (acc * 16 + d) (bs.drop (k + 1)) := by
        intro d hd
        rw [hdec]
        simp only [hexG]
        rw [← hcc, hd]
      have hstop : hexD c = none → hexG 0 bs = none := by
        intro hd
        rw [hdec]
        simp only [hexG]
        rw [← hcc, hd]
      have HST := Lib.hid hstep
      have HSP := Lib.hid hstop
      have HA := Lib.hid (show a = (acc : Int) ∧ acc < 16 ^ k from ⟨ha, hacc⟩)
      have HY := Lib.hid hy
      have hD := Lib.hid (show hexD c = if 48 ≤ c ∧ c ≤ 57 then some (c - 48) else if 97 ≤ y ∧ y ≤ 102 then some (y - 87) else none by rw [hy]; rfl)
      have hyc : c ≤ y := by rw [hy]; exact Nat.left_le_or
      have hy256 : y < 256 := by rw [hy]; exact Nat.or_lt_two_pow (n := 8) (by omega) (by omega)
      clear hstep hstop hdec ha hacc h16 hy hcc
      by_cases hdig : 48 ≤ c ∧ c ≤ 57
      · obtain ⟨hd0, hd1⟩ := hdig
        have hS := HST.out (c - 48) (by rw [hD.out, if_pos ⟨hd0, hd1⟩])
        have HN : Hid (a * 16 + ((c : Int) - 48) = ((acc * 16 + (c - 48) : Nat) : Int) ∧ acc * 16 + (c - 48) < 16 ^ (k + 1) ∧ hexG 0 bs = hexG (acc * 16 + (c - 48)) (bs.drop (k + 1))) := Lib.hid ⟨by have := HA.out.1; omega, by have := HA.out.2; rw [Nat.pow_succ]; omega, hS⟩
        clear hS
        go_wp2
        refine ⟨⟨k + 1, acc * 16 + (c - 48), a * 16 + ((c : Int) - 48), rfl, (by first | rfl | (congr 1; omega)), (by first | rfl | (congr 1; omega)), by omega, HN⟩, by simp [RowKit.intOf]; omega⟩
      · have hyc2 : y ≤ c + 32 := by rw [HY.out]; exact or_le_add c hc256
        by_cases hlet : 97 ≤ y ∧ y ≤ 122
        · obtain ⟨hl0, hl1⟩ := hlet
          have hcd : 57 < c := by omega
          have hc95 : c ≠ 95 := by
            rintro rfl
            have h := HY.out
            have h2 : (95 : Nat) ||| 32 = 127 := by decide
            rw [h2] at h
            omega
          have e95 : ((c : Int) == 95) = false := by simp; omega
          have d95 : decide ((c : Int) = 95) = false := decide_eq_false (by omega)
          clear hc95
          by_cases hhex : y ≤ 102
          · have hS := HST.out (y - 87) (by rw [hD.out, if_neg hdig, if_pos ⟨hl0, hhex⟩])
            have HN : Hid (a * 16 + ((y : Int) - 97 + 10) = ((acc * 16 + (y - 87) : Nat) : Int) ∧ acc * 16 + (y - 87) < 16 ^ (k + 1) ∧ hexG 0 bs = hexG (acc * 16 + (y - 87)) (bs.drop (k + 1))) := Lib.hid ⟨by have := HA.out.1; omega, by have := HA.out.2; rw [Nat.pow_succ]; omega, hS⟩
            clear hS hdig
            go_wp2_with (go_at_call 80; refine (kl _).mono ?_; rintro e w' ⟨rfl, rfl⟩)
            refine ⟨⟨k + 1, acc * 16 + (y - 87), a * 16 + ((y : Int) - 97 + 10), rfl, (by first | rfl | (congr 1; omega)), (by first | rfl | (congr 1; omega)), by omega, HN⟩, by simp [RowKit.intOf]; omega⟩
          · have hS := HSP.out (by rw [hD.out, if_neg hdig, if_neg (by omega)])
            have HS := Lib.hid hS
            clear hS hdig
            go_wp2_with (go_at_call 80; refine (kl _).mono ?_; rintro e w' ⟨rfl, rfl⟩)
            go_ret2
            exact ⟨by rw [HS.out]; rfl, HF.out⟩
        · have hS := HSP.out (by rw [hD.out, if_neg hdig, if_neg (by omega)])
          have HS := Lib.hid hS
          have hcd : c < 48 ∨ 57 < c := by omega
          have hld : y < 97 ∨ 122 < y := by omega
          clear hS hdig hlet
          by_cases hc95 : c = 95
          · have hy127 : y = 127 := by rw [HY.out, hc95]; rfl
            subst hc95
            subst hy127
            clear HY hcd hld
            go_wp2_with (go_at_call 80; refine (kl _).mono ?_; rintro e w' ⟨rfl, rfl⟩)
            go_ret2
            exact ⟨by rw [HS.out]; rfl, HF.out⟩
          · have e95 : ((c : Int) == 95) = false := by simp; omega
            have d95 : decide ((c : Int) = 95) = false := decide_eq_false (by omega)
            clear hc95
            rcases hcd with hcd | hcd <;> rcases hld with hld | hld
            all_goals
              go_wp2_with (go_at_call 80; refine (kl _).mono ?_; rintro e w' ⟨rfl, rfl⟩)
              all_goals go_ret2
              all_goals exact ⟨by rw [HS.out]; rfl, HF.out⟩
    · have hkk : k = t.size := by omega
      subst hkk
      have hS : hexG 0 bs = some acc := by
        rw [hdec, List.drop_eq_nil_of_le (by have := HLN.out; omega)]
        rfl
      have HS := Lib.hid hS
      have HA := Lib.hid ha
      clear hS hdec hacc ha
      go_wp2
      go_ret2
      exact ⟨by rw [HS.out, HA.out]; rfl, HF.out⟩
end
end Go.Proofs.YtejddfgmfdpnfaaDoor
namespace Go.Proofs.YtejddfgmfdpnfaaDoor
open Go.Proofs Go.Shelf Go.RowKit Go.Lib
shelf_lay LaysPu.n17 Mp 17 at Tryd as Tryd.toErrL
/-- The library's own variable holds an error. -/
def Sy (w : World) : Prop := ∃ ev, w.cell? ⟨2, 0, none⟩ = some ev ∧ (ev = .nilIface ∨ ∃ te pe, ev = .iface te pe)
theorem Sy.fr {w W : World} (h : Sy w) (hF : Fr N0 w W) : Sy W := by
  obtain ⟨ev, h1, h2⟩ := h
  exact ⟨ev, (hF.cell (p := ⟨2, 0, none⟩) (World.block_lt_of_cell? _ _ h1) id).trans h1, h2⟩
def decG (acc : Nat) : List UInt8 → Option Nat
  | [] => some acc
  | c :: r => if 48 ≤ c.toNat ∧ c.toNat ≤ 57 then decG (acc * 10 + (c.toNat - 48)) r else none
/-- What a text without a digit ends in. -/
abbrev synE : Lib.NumEnd Nat := Lib.parseUintB 64 []
theorem dec_of (M : Nat) : ∀ (l : List UInt8) (acc : Nat), (acc + 1) * 10 ^ l.length ≤ M + 1 → M + 1 ≤ 18446744073709551616 → Lib.parseUintM M acc l = match decG acc l with | some v => .ok v | none => synE
  | [], acc, _, _ => rfl
  | c :: r, acc, h, hM => by
    have hp : 0 < 10 ^ r.length := Nat.pow_pos (by omega)
    rw [List.length_cons, Nat.pow_succ] at h
    have h1 : (acc + 1) * 10 ≤ M + 1 := by
      have : (acc + 1) * 10 * 1 ≤ (acc + 1) * 10 * 10 ^ r.length := Nat.mul_le_mul_left _ hp
      have e : (acc + 1) * (10 ^ r.length * 10) = (acc + 1) * 10 * 10 ^ r.length := by rw [Nat.mul_comm (10 ^ r.length), Nat.mul_assoc]
      omega
    unfold Lib.parseUintM decG
    by_cases hd : 48 ≤ c.toNat ∧ c.toNat ≤ 57
    · rw [if_pos hd, if_neg (by omega), if_neg (by omega), if_pos hd]
      refine dec_of M r _ ?_ hM
      have h2 : acc * 10 + (c.toNat - 48) + 1 ≤ (acc + 1) * 10 := by omega
      have h3 := Nat.mul_le_mul_right (10 ^ r.length) h2
      have e : (acc + 1) * (10 ^ r.length * 10) = (acc + 1) * 10 * 10 ^ r.length := by rw [Nat.mul_comm (10 ^ r.length), Nat.mul_assoc]
      omega
    · rw [if_neg hd, if_neg hd]
      first | done | rfl
theorem decG_lt : ∀ (l : List UInt8) (acc v : Nat), decG acc l = some v → v < (acc + 1) * 10 ^ l.length
  | [], acc, v, h => by
    simp only [decG, Option.some.injEq] at h
    simp
    omega
  | c :: r, acc, v, h => by
    unfold decG at h
    split at h
    · rename_i hd
      have h1 := decG_lt r _ v h
      have h2 : acc * 10 + (c.toNat - 48) + 1 ≤ (acc + 1) * 10 := by omega
      have h3 := Nat.mul_le_mul_right (10 ^ r.length) h2
      rw [List.length_cons, Nat.pow_succ]
      have e : (acc + 1) * (10 ^ r.length * 10) = (acc + 1) * 10 * 10 ^ r.length := by rw [Nat.mul_comm (10 ^ r.length), Nat.mul_assoc]
      omega
    · cases h
def num10 (l : List UInt8) : Option Nat := if l.length = 0 ∨ 3 < l.length then none else decG 0 l
def num16 (l : List UInt8) : Option Nat := if l.length = 0 ∨ 4 < l.length then none else hexG 0 l
def numT : Option Nat → Value
  | some v => .tuple #[.int .u64 (v : Int), .bool true]
  | none => .tuple #[.int .u64 0, .bool false]
section
variable {w : World}
theorem bytes_fr (w : World) (s : ByteArray) (w' : World) (h : w' = w ∨ w' = Lib.bytesWorld w 5 s) : Fr N0 w w' := by
  rcases h with rfl | rfl
  · exact Fr.refl _ _
  · exact Fr.freeze (by unfold Lib.bytesCells; repeat first | exact Fr.refl _ _ | refine Fr.drew ?_ | refine Fr.alloc ?_ _) _ _ (Nat.le_refl _)
set_option maxHeartbeats 1600000 in
set_option maxRecDepth 100000 in
theorem pu16 (s : ByteArray) (hne : s.size ≠ 0) (hmax : s.size ≤ 4) (hsy : Sy w) : Calls Tryd.prog 56 #[.string s, .int .i64 16, .int .i64 64] w fun e w' =>
    (match hexG 0 s.data.toList with | some v => e = .returned (.tuple #[.int .u64 (v : Int), .nilIface]) | none => ∃ t N, e = .returned (.tuple #[.int .u64 0, .iface t (.pointer (some ⟨N, 0, none⟩))])) ∧ Fr N0 w w' := by
  have k := ipu16 (w := w) s hne hmax
  cases hg : hexG 0 s.data.toList with
  | some v =>
    rw [hg] at k
    simp only [hexT] at k
    clear hg hne hmax
    go_enter Tryd.func56, Tryd.ntmps56
    go_wp2_with (go_at_call 67; refine k.mono ?_; rintro e w2 ⟨rfl, hf⟩)
    go_wp2_with fail
    go_ret2
    exact ⟨rfl, hf⟩
  | none =>
    rw [hg] at k
    simp only [hexT] at k
    have HM := Lib.hid hmax
    clear hg hne hmax
    go_enter Tryd.func56, Tryd.ntmps56
    go_wp2_with (go_at_call 67; refine k.mono ?_; rintro e w2 ⟨rfl, hf⟩)
    obtain ⟨ev, h1, h2⟩ := hsy.fr hf
    go_wp2_with (go_at_call 68; refine (AnyPu.strconv_toError_syntax Tryd.toErrL ⟨#[80, 97, 114, 115, 101, 85, 105, 110, 116]⟩ s 16 64 ev _ (by have := HM.out; omega) h1 h2).mono ?_; rintro e w3 ⟨N, rfl, h3, h4, h5⟩)
    go_wp2_with fail
    go_ret2
    exact ⟨⟨_, N, rfl⟩, hf.trans (Fr.of_below h5)⟩
theorem pu10 (s : ByteArray) (hne : s.size ≠ 0) (hmax : s.size ≤ 3) (hsy : Sy w) : Calls Tryd.prog 56 #[.string s, .int .i64 10, .int .i64 64] w fun e w' =>
    (match decG 0 s.data.toList with | some v => e = .returned (.tuple #[.int .u64 (v : Int), .nilIface]) | none => ∃ t N, e = .returned (.tuple #[.int .u64 0, .iface t (.pointer (some ⟨N, 0, none⟩))])) ∧ Fr N0 w w' := by
  have hlen : s.data.toList.length = s.size := Lib.size_eq s
  have hnil : s.data.toList ≠ [] := by intro h; rw [h] at hlen; simp at hlen; omega
  have hp10 : 10 ^ s.data.toList.length ≤ 10 ^ 3 := Nat.pow_le_pow_right (by omega) (by omega)
  have h := dec_of (2 ^ 64 - 1) s.data.toList 0 (by omega) (by omega)
  cases hg : decG 0 s.data.toList with
  | some v =>
    rw [hg] at h
    refine (Any.strconv_ParseUint_10_at64_ok Tryd.puL s (by omega) v (by unfold Lib.parseUintB; rw [if_neg hnil]; exact h) w).mono ?_
    rintro e w' ⟨rfl, hw⟩
    exact ⟨rfl, bytes_fr _ _ _ hw⟩
  | none =>
    rw [hg] at h
    obtain ⟨ev, h1, h2⟩ := hsy
    refine (Any.strconv_ParseUint_10_at64_syntax Tryd.puL s (by omega) (by unfold Lib.parseUintB; rw [if_neg hnil]; exact h) ev w h1 h2).mono ?_
    rintro e w' ⟨N, rfl, -, -, hb⟩
    exact ⟨⟨_, N, rfl⟩, Fr.of_below hb⟩
theorem pu10b (s : ByteArray) (hne : s.size ≠ 0) (hmax : s.size ≤ 3) (hsy : Sy w) : Calls Tryd.prog 56 #[.string s, .int .i64 10, .int .i64 16] w fun e w' =>
    (match decG 0 s.data.toList with | some v => e = .returned (.tuple #[.int .u64 (v : Int), .nilIface]) | none => ∃ t N, e = .returned (.tuple #[.int .u64 0, .iface t (.pointer (some ⟨N, 0, none⟩))])) ∧ Fr N0 w w' := by
  have hlen : s.data.toList.length = s.size := Lib.size_eq s
  have hnil : s.data.toList ≠ [] := by intro h; rw [h] at hlen; simp at hlen; omega
  have hp10 : 10 ^ s.data.toList.length ≤ 10 ^ 3 := Nat.pow_le_pow_right (by omega) (by omega)
  have h := dec_of (2 ^ 16 - 1) s.data.toList 0 (by omega) (by omega)
  cases hg : decG 0 s.data.toList with
  | some v =>
    rw [hg] at h
    refine (Any.strconv_ParseUint_10_at16_ok Tryd.puL s (by omega) v (by unfold Lib.parseUintB; rw [if_neg hnil]; exact h) w).mono ?_
    rintro e w' ⟨rfl, hw⟩
    exact ⟨rfl, bytes_fr _ _ _ hw⟩
  | none =>
    rw [hg] at h
    obtain ⟨ev, h1, h2⟩ := hsy
    refine (Any.strconv_ParseUint_10_at16_syntax Tryd.puL s (by omega) (by unfold Lib.parseUintB; rw [if_neg hnil]; exact h) ev w h1 h2).mono ?_
    rintro e w' ⟨N, rfl, -, -, hb⟩
    exact ⟨⟨_, N, rfl⟩, Fr.of_below hb⟩
theorem num10_eq (s : ByteArray) : num10 s.data.toList = if s.size = 0 ∨ 3 < s.size then none else decG 0 s.data.toList := by
  have hlen : s.data.toList.length = s.size := Lib.size_eq s
  unfold num10
  rw [hlen]
theorem num16_eq (s : ByteArray) : num16 s.data.toList = if s.size = 0 ∨ 4 < s.size then none else hexG 0 s.data.toList := by
  have hlen : s.data.toList.length = s.size := Lib.size_eq s
  unfold num16
  rw [hlen]
theorem empty_of {s : ByteArray} (h : s.size = 0) : s = ⟨#[]⟩ := by
  obtain ⟨⟨l⟩⟩ := s
  have : l = [] := List.length_eq_zero_iff.1 h
  subst this
  rfl
theorem nempty_of {s : ByteArray} (h : s.size ≠ 0) : s.toList.isEmpty = false := by
  rw [← decide_eq_emptyBytes]
  exact decide_eq_false (fun e => h (by rw [e]; rfl))
set_option maxHeartbeats 3200000 in
set_option maxRecDepth 100000 in
theorem numb10 (s : ByteArray) (hsy : Sy w) : Calls Tryd.prog 46 #[.string s, .int .i64 10, .int .i64 3] w fun e w' => e = .returned (numT (num10 s.data.toList)) ∧ Fr N0 w w' := by
  rw [num10_eq]
  by_cases h0 : s.size = 0
  · rw [if_pos (.inl h0)]
    obtain rfl := empty_of h0
    go_enter Tryd.func46, Tryd.ntmps46
    go_wp2_with fail
    go_ret2
    exact ⟨rfl, Fr.refl _ _⟩
  · have hemp := nempty_of h0
    by_cases h3 : 3 < s.size
    · rw [if_pos (.inr h3)]
      have hi : (3 : Int) < (s.size : Int) := by omega
      go_enter Tryd.func46, Tryd.ntmps46
      go_wp2_with fail
      go_ret2
      exact ⟨rfl, Fr.refl _ _⟩
    · rw [if_neg (by omega)]
      have k := pu10 (w := w) s h0 (by omega) hsy
      have hd : decide (3 < (s.size : Int)) = false := decide_eq_false (by omega)
      cases hg : decG 0 s.data.toList with
      | some v =>
        rw [hg] at k
        clear hg
        go_enter Tryd.func46, Tryd.ntmps46
        go_wp2_with (go_at_call 56; refine k.mono ?_; rintro e w2 ⟨rfl, hf⟩)
        go_region
        all_goals go_wp2_with fail
        all_goals go_ret2
        all_goals exact ⟨rfl, hf.drew⟩
      | none =>
        rw [hg] at k
        clear hg
        go_enter Tryd.func46, Tryd.ntmps46
        go_wp2_with (go_at_call 56; refine k.mono ?_; rintro e w2 ⟨⟨t, N, rfl⟩, hf⟩)
        go_region
        all_goals go_wp2_with fail
        all_goals go_ret2
        all_goals exact ⟨rfl, hf.drew⟩
set_option maxHeartbeats 3200000 in
set_option maxRecDepth 100000 in
theorem numb16 (s : ByteArray) (hsy : Sy w) : Calls Tryd.prog 46 #[.string s, .int .i64 16, .int .i64 4] w fun e w' => e = .returned (numT (num16 s.data.toList)) ∧ Fr N0 w w' := by
  rw [num16_eq]
  by_cases h0 : s.size = 0
  · rw [if_pos (.inl h0)]
    obtain rfl := empty_of h0
    go_enter Tryd.func46, Tryd.ntmps46
    go_wp2_with fail
    go_ret2
    exact ⟨rfl, Fr.refl _ _⟩
  · have hemp := nempty_of h0
    by_cases h3 : 4 < s.size
    · rw [if_pos (.inr h3)]
      have hi : (4 : Int) < (s.size : Int) := by omega
      go_enter Tryd.func46, Tryd.ntmps46
      go_wp2_with fail
      go_ret2
      exact ⟨rfl, Fr.refl _ _⟩
    · rw [if_neg (by omega)]
      have k := pu16 (w := w) s h0 (by omega) hsy
      have hd : decide (4 < (s.size : Int)) = false := decide_eq_false (by omega)
      cases hg : hexG 0 s.data.toList with
      | some v =>
        rw [hg] at k
        clear hg
        go_enter Tryd.func46, Tryd.ntmps46
        go_wp2_with (go_at_call 56; refine k.mono ?_; rintro e w2 ⟨rfl, hf⟩)
        go_region
        all_goals go_wp2_with fail
        all_goals go_ret2
        all_goals exact ⟨rfl, hf.drew⟩
      | none =>
        rw [hg] at k
        clear hg
        go_enter Tryd.func46, Tryd.ntmps46
        go_wp2_with (go_at_call 56; refine k.mono ?_; rintro e w2 ⟨⟨t, N, rfl⟩, hf⟩)
        go_region
        all_goals go_wp2_with fail
        all_goals go_ret2
        all_goals exact ⟨rfl, hf.drew⟩
/-- How many bits a text says; -1: it is no number of bits. -/
def manyP (l : List UInt8) : Int := if l.length = 0 ∨ 3 < l.length ∨ (l.head? = some 48 ∧ 1 < l.length) then -1 else match decG 0 l with | some v => (v : Int) | none => -1
theorem head_of {s : ByteArray} (h : 0 < s.size) : s.data.toList.head? = some (s[0]'h) := by
  obtain ⟨⟨l⟩⟩ := s
  cases l with
  | nil => simp [ByteArray.size] at h
  | cons a r => rfl
end
end Go.Proofs.YtejddfgmfdpnfaaDoor
namespace Go.Proofs.YtejddfgmfdpnfaaDoor
open Go.Proofs Go.Shelf Go.RowKit
def acc (l : List Nat) : Nat := l.foldl (fun a u => a * 256 + u) 0
/-- A text that spells a number of 0 to 255, plainly. -/
structure Dec (s : ByteArray) (u : Nat) : Prop where
  ne : s.toList.isEmpty = false
  le : s.size ≤ 3
  val : Lib.parseUintB 64 s.data.toList = .ok u
  lt : u < 256
  plain : s.size = 1 ∨ ∀ h : 0 < s.size, (s[0]'h).toNat ≠ 48
theorem acc_snoc (l : List Nat) (u : Nat) : acc (l ++ [u]) = acc l * 256 + u := by simp [acc]
theorem acc_lt : ∀ (n : Nat) (l : List Nat), l.length = n → (∀ u ∈ l, u < 256) → acc l < 256 ^ n
  | 0, l, hl, _ => by
    have : l = [] := List.length_eq_zero_iff.1 hl
    subst this
    simp [acc]
  | n + 1, l, hl, h => by
    rcases List.eq_nil_or_concat l with rfl | ⟨r, u, rfl⟩
    · simp at hl
    · rw [List.concat_eq_append] at hl h ⊢
      rw [acc_snoc]
      have h1 := acc_lt n r (by simpa using hl) fun u hu => h u (by simp [hu])
      have h2 := h u (by simp)
      rw [Nat.pow_succ]
      omega
theorem or_byte {x u : Nat} (hx : x < 72057594037927936) (hu : u < 256) : bits .or .u64 (IntKind.u64.wrap ((x : Int) * 256)) (u : Int) = ((x * 256 + u : Nat) : Int) := by
  rw [IntWalk.u64_in _ (by omega), show ((x : Int) * 256) = ((x * 256 : Nat) : Int) by omega, bits_or_u64_nat _ _ (by omega) (by omega)]
  congr 1
  rw [Nat.mul_comm, show (256 : Nat) = 2 ^ 8 from rfl, Nat.two_pow_add_eq_or_of_lt (show u < 2 ^ 8 from hu)]
section
variable {w : World}
set_option maxHeartbeats 1600000 in
set_option maxRecDepth 100000 in
theorem four_ok (s : ByteArray) (m : Int) (hm : w.cell? ⟨1, 0, none⟩ = some (.int .i64 m)) (hs : s.size < 4294967281) (ts : List ByteArray) (us : List Nat) (hts : Lib.splitB ⟨#[46]⟩ 0 (Lib.countB s ⟨#[46]⟩) s = ts) (hn : ts.length = 4) (hu : us.length = 4)
    (hd : ∀ (j : Nat) t u, ts[j]? = some t → us[j]? = some u → Dec t u) : Calls Tryd.prog 30 #[.string s] w fun e w' => e = .returned (.tuple #[adV ⟨false, 0, acc us⟩, .bool true]) ∧ Fr N0 w w' := by
  have hc4 : Lib.countB s ⟨#[46]⟩ + 1 = 4 := by
    have := Lib.splitB_all ⟨#[46]⟩ (by decide) 0 _ s rfl
    rw [hts] at this
    omega
  have i9 : (Tryd.prog.info? 9).map (fun i => (i.zero, i.size, i.bytes)) = some (some (.string ByteArray.empty), 1, 16) := by kernel_rfl
  have k65 : ∀ W : World, W.cell? ⟨1, 0, none⟩ = some (.int .i64 m) → Calls Tryd.prog 45 #[.string s, .string ⟨#[46]⟩] W fun e w' => e = .returned (.slice (some ⟨W.heap.size, 0, none⟩) 4 4) ∧ w' = W.alloc (.cells (ts.map Value.string).toArray 9) := by
    intro W hW
    have := Any.strings_Split Tryd.splitL i9 s ⟨#[46]⟩ m W hs hW (by decide)
    rw [hts, hc4] at this
    exact this
  have HD := Lib.hid hd
  have HN := Lib.hid hn
  have HU := Lib.hid hu
  clear hts hd hn hu hc4
  go_enter Tryd.func30, Tryd.ntmps30
  go_wp2_with fail
  have HF0 := Lib.hid (Fr.alloc (Fr.refl N0 w) (.cells #[.bool false, .int .u64 0, .int .u64 0] 25))
  have hlt0 := World.block_lt_of_cell? _ _ hm
  have HM := Lib.hid ((HF0.out.cell hlt0 id).trans hm)
  have HA2 := Lib.hid (Blk.new w 25 #[.bool false, .int .u64 0, .int .u64 0])
  generalize w.alloc _ = w1 at *
  obtain ⟨g2, hg2⟩ : ∃ g, g = w.heap.size := ⟨_, rfl⟩
  rw [← hg2] at HA2 ⊢
  have HG2 := Lib.hid (Nat.le_of_eq hg2.symm)
  clear hg2 hm hlt0
  go_wp2_with (go_at_call 45; refine (k65 _ HM.out).mono ?_; rintro e w2 ⟨rfl, rfl⟩)
  have HF2 := Lib.hid (Fr.alloc (Fr.alloc HF0.out (.cells (ts.map Value.string).toArray 9)) (.cells #[.bool false, .int .u64 0, .int .u64 0] 25))
  have HB2 := Lib.hid ((HA2.out.alloc (.cells (ts.map Value.string).toArray 9)).alloc (.cells #[.bool false, .int .u64 0, .int .u64 0] 25))
  have HB4 := Lib.hid ((Blk.new w1 9 (ts.map Value.string).toArray).alloc (.cells #[.bool false, .int .u64 0, .int .u64 0] 25))
  have HB5 := Lib.hid (Blk.alloc2 w1 (.cells (ts.map Value.string).toArray 9) 25 #[.bool false, .int .u64 0, .int .u64 0])
  have hlt2 := HA2.out.lt
  generalize World.alloc (w1.alloc _) _ = w2 at *
  obtain ⟨g5, hg5⟩ : ∃ g, g = w1.heap.size + 1 := ⟨_, rfl⟩
  rw [← hg5] at HB5 ⊢
  obtain ⟨g4, hg4⟩ : ∃ g, g = w1.heap.size := ⟨_, rfl⟩
  rw [← hg4] at HB4 ⊢
  have N25 := Lib.hid (show g2 ≠ g5 by omega)
  have N45 := Lib.hid (show g4 ≠ g5 by omega)
  have HG5 := Lib.hid (show w.heap.size ≤ g5 by have := HF0.out.size; omega)
  clear hg4 hg5 hlt2
  go_loopw [15] (fun i wr => ∃ j : Nat, j ≤ 4 ∧ i = .int .i64 (j : Int) ∧ Blk wr g5 25 #[.bool false, .int .u64 0, .int .u64 (acc (us.take j) : Int)] ∧ Fr (fun i => i = g5) w2 wr) (fun i _ => 5 - (RowKit.intOf i).toNat)
  case atStart => exact ⟨0, by omega, rfl, HB5.out, Fr.refl _ _⟩
  case round =>
    obtain ⟨j, hj, rfl, hb5, hF⟩ := hrel
    have B5 := Lib.hid hb5
    have G := Lib.hid hF
    clear hb5 hF
    by_cases hj4 : j < 4
    · have hjI : (j : Int) < 4 := by omega
      obtain ⟨t, ht⟩ : ∃ t, ts[j]? = some t := ⟨_, List.getElem?_eq_getElem (by rw [HN.out]; exact hj4)⟩
      obtain ⟨u, hu⟩ : ∃ u, us[j]? = some u := ⟨_, List.getElem?_eq_getElem (by rw [HU.out]; exact hj4)⟩
      have hD := HD.out j t u ht hu
      have x0 := (HB4.out.fr G.out N45.out).cell j
      rw [List.getElem?_toArray, List.getElem?_map, ht] at x0
      replace x0 : wr.cell? ⟨g4, j, none⟩ = some (.string t) := x0
      obtain ⟨z0, z1, z2⟩ := B5.out.c3
      have k66 := fun W => numb_ok (w := W) t u hD.ne hD.le hD.val
      have hA : acc (us.take (j + 1)) = acc (us.take j) * 256 + u := by
        rw [List.take_add_one, hu]; simp [acc]
      have hlt := acc_lt j (us.take j) (by rw [List.length_take, HU.out]; omega) (fun v hv => by
        obtain ⟨k, hk⟩ := List.getElem?_of_mem hv
        have hk4 : k < j := by
          have := (List.getElem?_eq_some_iff.1 hk).1
          rw [List.length_take] at this
          omega
        rw [List.getElem?_take_of_lt hk4] at hk
        exact (HD.out k _ v (List.getElem?_eq_getElem (by rw [HN.out]; omega)) hk).lt)
      have hlt' : acc (us.take j) < 72057594037927936 := Nat.lt_of_lt_of_le hlt (Nat.le_trans (Nat.pow_le_pow_right (by omega) (show j ≤ 4 by omega)) (by decide))
      have HOR := Lib.hid (or_byte hlt' hD.lt)
      clear hlt hlt'
      have HA := Lib.hid hA
      have hu256 := hD.lt
      have hb255 : decide (255 < (u : Int)) = false := by simp; omega
      have hp := hD.plain
      clear ht hu hA
      by_cases ht1 : 1 < t.size
      · have ht0 : 0 < t.size := by omega
        have hq : (t[0]'ht0).toNat ≠ 48 := by
          rcases hp with hp | hp
          · omega
          · exact hp ht0
        have h0t : (0 : Int) < (t.size : Int) := by omega
        have hd1 : (1 : Int) < (t.size : Int) := by omega
        have hq' : (((t[0]'ht0).toNat : Int) == 48) = false := by simp; omega
        clear hp
        go_wp2_with (go_at_call 46; refine (k66 _).mono ?_; rintro e w6 ⟨rfl, hf6⟩; have B6 := Lib.hid (B5.out.fr hf6 id); have G6 := Lib.hid (G.out.trans (hf6.mono fun _ _ h => h.elim)); obtain ⟨y0, y1, y2⟩ := B6.out.c3; have fz := B6.out.frozen 2)
        go_roundw
        case rel =>
          have HB : Blk (w6.setCell ⟨g5, 2, none⟩ (Value.int IntKind.u64 (bits BinOp.or IntKind.u64 (IntKind.u64.wrap (↑(acc (List.take j us)) * 256)) ↑u))) g5 25 #[.bool false, .int .u64 0, .int .u64 (acc (us.take (j + 1)) : Int)] := by
            rw [HA.out, HOR.out]
            exact B6.out.set_ 2 _
          exact ⟨j + 1, by omega, by go_num, HB, G6.out.setCell (.inl rfl) _⟩
        case measure => simp [RowKit.intOf]; omega
      · have hd1 : decide (1 < (t.size : Int)) = false := by simp; omega
        clear hp
        go_wp2_with (go_at_call 46; refine (k66 _).mono ?_; rintro e w6 ⟨rfl, hf6⟩; have B6 := Lib.hid (B5.out.fr hf6 id); have G6 := Lib.hid (G.out.trans (hf6.mono fun _ _ h => h.elim)); obtain ⟨y0, y1, y2⟩ := B6.out.c3; have fz := B6.out.frozen 2)
        go_roundw
        case rel =>
          have HB : Blk (w6.setCell ⟨g5, 2, none⟩ (Value.int IntKind.u64 (bits BinOp.or IntKind.u64 (IntKind.u64.wrap (↑(acc (List.take j us)) * 256)) ↑u))) g5 25 #[.bool false, .int .u64 0, .int .u64 (acc (us.take (j + 1)) : Int)] := by
            rw [HA.out, HOR.out]
            exact B6.out.set_ 2 _
          exact ⟨j + 1, by omega, by go_num, HB, G6.out.setCell (.inl rfl) _⟩
        case measure => simp [RowKit.intOf]; omega
    · have hjI : ¬ (j : Int) < 4 := by omega
      obtain rfl : j = 4 := by omega
      have B2 := Lib.hid (HB2.out.fr G.out N25.out)
      obtain ⟨z0, z1, z2⟩ := B5.out.c3
      go_wp2_with (refine wpList_store_row rfl 25 _ _ rfl g2 _ rfl rfl _ _ B2.out rfl rfl (by simp [Value.oneCell']) ?_)
      refine ret_cell2 rfl rfl (B2.out.row _) Tryd.underlying25 rfl ⟨?_, Fr.setRow (HF2.out.step G.out fun i hi => .inr (hi ▸ HG5.out)) (.inr HG2.out) _⟩
      rw [List.take_of_length_le (by rw [HU.out]; exact Nat.le_refl _)]
      rfl
end
end Go.Proofs.YtejddfgmfdpnfaaDoor
namespace Go.Proofs.YtejddfgmfdpnfaaDoor
open Go.Proofs Go.Shelf Go.RowKit
/-- A number of 0 to 255, plainly. -/
def octP (t : List UInt8) : Option Nat := match num10 t with
  | some v => if 255 < v ∨ (1 < t.length ∧ t.head? = some 48) then none else some v
  | none => none
def octs : List (List UInt8) → Option (List Nat)
  | [] => some []
  | t :: r => match octP t, octs r with
    | some u, some us => some (u :: us)
    | _, _ => none
def fourP (ts : List (List UInt8)) : Option Nat := if ts.length = 4 then (octs ts).map acc else none
theorem octP_lt {t : List UInt8} {u : Nat} (h : octP t = some u) : u < 256 := by
  unfold octP at h
  split at h
  · split at h
    · cases h
    · cases h; omega
  · cases h
theorem octs_snoc : ∀ (l : List (List UInt8)) (t : List UInt8), octs (l ++ [t]) = match octs l, octP t with
    | some us, some u => some (us ++ [u])
    | _, _ => none
  | [], t => by
    simp only [List.nil_append, octs]
    cases octP t <;> rfl
  | a :: l, t => by
    simp only [List.cons_append, octs]
    rw [octs_snoc l t]
    cases octP a <;> cases octs l <;> cases octP t <;> rfl
theorem octs_len : ∀ (l : List (List UInt8)) (us : List Nat), octs l = some us → us.length = l.length
  | [], us, h => by cases h; rfl
  | a :: l, us, h => by
    simp only [octs] at h
    cases h1 : octP a with
    | none => rw [h1] at h; cases h
    | some u =>
      cases h2 : octs l with
      | none => rw [h1, h2] at h; cases h
      | some vs =>
        rw [h1, h2] at h
        cases h
        simp [octs_len l vs h2]
theorem octs_lt : ∀ (l : List (List UInt8)) (us : List Nat), octs l = some us → ∀ u ∈ us, u < 256
  | [], us, h, u, hu => by cases h; cases hu
  | a :: l, us, h, u, hu => by
    simp only [octs] at h
    cases h1 : octP a with
    | none => rw [h1] at h; cases h
    | some v =>
      cases h2 : octs l with
      | none => rw [h1, h2] at h; cases h
      | some vs =>
        rw [h1, h2] at h
        cases h
        rcases List.mem_cons.1 hu with rfl | hu
        · exact octP_lt h1
        · exact octs_lt l vs h2 u hu
theorem octs_none : ∀ (l : List (List UInt8)) (j : Nat) (t : List UInt8), l[j]? = some t → octP t = none → octs l = none
  | [], j, t, h, _ => by simp at h
  | a :: l, 0, t, h, hn => by
    simp at h
    subst h
    simp only [octs, hn]
  | a :: l, j + 1, t, h, hn => by
    simp at h
    simp only [octs, octs_none l j t h hn]
    cases octP a <;> rfl
/-- What the machine makes of a number and one more byte. -/
def shl8 (lo u : Nat) : Nat := (lo * 256 % 18446744073709551616) ||| u
theorem shl8_lt {lo u : Nat} (hu : u < 256) : shl8 lo u < 18446744073709551616 := by
  unfold shl8
  exact Nat.or_lt_two_pow (n := 64) (Nat.mod_lt _ (by omega)) (by omega)
theorem shl8_bits {lo u : Nat} (hu : u < 256) : bits .or .u64 (IntKind.u64.wrap ((lo : Int) * 256)) (u : Int) = ((shl8 lo u : Nat) : Int) := by
  have e : IntKind.u64.wrap ((lo : Int) * 256) = ((lo * 256 % 18446744073709551616 : Nat) : Int) := by rw [IntKind.wrap_u64]; omega
  rw [e, bits_or_u64_nat _ _ (Nat.mod_lt _ (by omega)) (by omega)]
  rfl
theorem shl8_small {lo u : Nat} (hl : lo < 72057594037927936) (hu : u < 256) : shl8 lo u = lo * 256 + u := by
  unfold shl8
  rw [Nat.mod_eq_of_lt (by omega), Nat.mul_comm, show (256 : Nat) = 2 ^ 8 from rfl, Nat.two_pow_add_eq_or_of_lt (show u < 2 ^ 8 from hu)]
section
variable {w : World}
set_option maxHeartbeats 6400000 in
set_option maxRecDepth 100000 in
theorem four_ (s : ByteArray) (ts : List ByteArray) (m : Int) (hm : w.cell? ⟨1, 0, none⟩ = some (.int .i64 m)) (hsy : Sy w) (hn63 : ts.length ≤ 4611686018427387904)
    (hsp : ∀ W : World, W.cell? ⟨1, 0, none⟩ = some (.int .i64 m) → Calls Tryd.prog 45 #[.string s, .string ⟨#[46]⟩] W fun e w' => e = .returned (.slice (some ⟨W.heap.size, 0, none⟩) ts.length ts.length) ∧ w' = W.alloc (.cells (ts.map Value.string).toArray 9)) :
    Calls Tryd.prog 30 #[.string s] w fun e w' => ∃ x, e = .returned (.tuple #[adV ⟨false, 0, x⟩, .bool (fourP (ts.map (·.data.toList))).isSome]) ∧ (∀ lo, fourP (ts.map (·.data.toList)) = some lo → x = lo) ∧ Fr N0 w w' := by
  obtain ⟨n, hn⟩ : ∃ n, n = ts.length := ⟨_, rfl⟩
  rw [← hn] at hsp hn63
  have HN := Lib.hid hn
  clear hn
  go_enter Tryd.func30, Tryd.ntmps30
  go_wp2_with fail
  have HF0 := Lib.hid (Fr.alloc (Fr.refl N0 w) (.cells #[.bool false, .int .u64 0, .int .u64 0] 25))
  have hlt0 := World.block_lt_of_cell? _ _ hm
  have HM := Lib.hid ((HF0.out.cell hlt0 id).trans hm)
  have HA2 := Lib.hid (Blk.new w 25 #[.bool false, .int .u64 0, .int .u64 0])
  generalize w.alloc _ = w1 at *
  obtain ⟨g2, hg2⟩ : ∃ g, g = w.heap.size := ⟨_, rfl⟩
  rw [← hg2] at HA2 ⊢
  have HG2 := Lib.hid (Nat.le_of_eq hg2.symm)
  clear hg2 hm hlt0
  go_wp2_with (go_at_call 45; refine (hsp _ HM.out).mono ?_; rintro e w2 ⟨rfl, rfl⟩)
  have HF2 := Lib.hid (Fr.alloc (Fr.alloc HF0.out (.cells (ts.map Value.string).toArray 9)) (.cells #[.bool false, .int .u64 0, .int .u64 0] 25))
  have HB2 := Lib.hid ((HA2.out.alloc (.cells (ts.map Value.string).toArray 9)).alloc (.cells #[.bool false, .int .u64 0, .int .u64 0] 25))
  have HB4 := Lib.hid ((Blk.new w1 9 (ts.map Value.string).toArray).alloc (.cells #[.bool false, .int .u64 0, .int .u64 0] 25))
  have HB5 := Lib.hid (Blk.alloc2 w1 (.cells (ts.map Value.string).toArray 9) 25 #[.bool false, .int .u64 0, .int .u64 0])
  have hlt2 := HA2.out.lt
  have HSY := Lib.hid hsy
  generalize World.alloc (w1.alloc _) _ = w2 at *
  obtain ⟨g5, hg5⟩ : ∃ g, g = w1.heap.size + 1 := ⟨_, rfl⟩
  rw [← hg5] at HB5 ⊢
  obtain ⟨g4, hg4⟩ : ∃ g, g = w1.heap.size := ⟨_, rfl⟩
  rw [← hg4] at HB4 ⊢
  have N25 := Lib.hid (show g2 ≠ g5 by omega)
  have N45 := Lib.hid (show g4 ≠ g5 by omega)
  have HG5 := Lib.hid (show w.heap.size ≤ g5 by have := HF0.out.size; omega)
  clear hg4 hg5 hlt2 hsp hsy
  go_loopw [15] (fun i wr => ∃ (j lo : Nat) (us : List Nat), j ≤ n ∧ i = .int .i64 (j : Int) ∧ lo < 18446744073709551616 ∧ octs ((ts.take j).map (·.data.toList)) = some us ∧ (j ≤ 4 → lo = acc us) ∧ Blk wr g5 25 #[.bool false, .int .u64 0, .int .u64 (lo : Int)] ∧ Fr (fun i => i = g5) w2 wr) (fun i _ => n + 1 - (RowKit.intOf i).toNat)
  case atStart => exact ⟨0, 0, [], by omega, rfl, by omega, rfl, fun _ => rfl, HB5.out, Fr.refl _ _⟩
  case round =>
    obtain ⟨j, lo, us, hj, rfl, hlo, hus, hacc, hb5, hF⟩ := hrel
    have B5 := Lib.hid hb5
    have G := Lib.hid hF
    have B2 := Lib.hid (HB2.out.fr hF N25.out)
    have GW := Lib.hid (HF2.out.step hF fun i hi => .inr (hi ▸ HG5.out))
    have SW := Lib.hid (HSY.out.fr GW.out)
    have HUS := Lib.hid hus
    have HAC := Lib.hid hacc
    clear hb5 hF hus hacc
    by_cases hjn : j < n
    · obtain ⟨t, ht⟩ : ∃ t, ts[j]? = some t := ⟨_, List.getElem?_eq_getElem (by rw [← HN.out]; exact hjn)⟩
      have x0 := (HB4.out.fr G.out N45.out).cell j
      rw [List.getElem?_toArray, List.getElem?_map, ht] at x0
      replace x0 : wr.cell? ⟨g4, j, none⟩ = some (.string t) := x0
      obtain ⟨z0, z1, z2⟩ := B5.out.c3
      have hsnoc : octs ((ts.take (j + 1)).map (·.data.toList)) = match octP t.data.toList with | some u => some (us ++ [u]) | none => none := by
        rw [List.take_add_one, ht, List.map_append, Option.toList_some, List.map_cons, List.map_nil, octs_snoc, HUS.out]
        cases octP t.data.toList <;> rfl
      have hbad : octP t.data.toList = none → fourP (ts.map (·.data.toList)) = none := by
        intro hn
        unfold fourP
        split
        · rw [octs_none _ j t.data.toList (by rw [List.getElem?_map, ht]; rfl) hn]; rfl
        · rfl
      have HSN := Lib.hid hsnoc
      have HBD := Lib.hid hbad
      have hsz : t.data.toList.length = t.size := Lib.size_eq t
      have k := fun W (hW : Sy W) => numb10 (w := W) t hW
      have k66 := k wr SW.out
      have hO : octP t.data.toList = match num10 t.data.toList with | some v => if 255 < v ∨ (1 < t.size ∧ t.data.toList.head? = some 48) then none else some v | none => none := by
        unfold octP
        rw [hsz]
      clear hsnoc hbad ht k hsz
      cases hnum : num10 t.data.toList with
      | none =>
        rw [hnum] at hO k66
        have HX := Lib.hid (HBD.out hO)
        clear hO hnum HBD HSN
        simp only [numT] at k66
        go_wp2_with (first
          | (go_at_call 46; refine k66.mono ?_; rintro e w6 ⟨rfl, hf6⟩; have B6 := Lib.hid (B5.out.fr hf6 id); have C6 := Lib.hid (B2.out.fr hf6 id); have G6 := Lib.hid (G.out.trans (hf6.mono fun _ _ h => h.elim)); have W6 := Lib.hid (GW.out.trans hf6); obtain ⟨y0, y1, y2⟩ := B6.out.c3; have fz := B6.out.frozen 2)
          | (refine wpList_store_row rfl 25 _ _ rfl g2 _ rfl rfl _ _ C6.out rfl rfl (by simp [Value.oneCell']) ?_))
        refine ret_cell2 rfl rfl (C6.out.row _) Tryd.underlying25 rfl ⟨0, by rw [HX.out]; rfl, (fun lo h => by rw [HX.out] at h; cases h), Fr.setRow W6.out (.inr HG2.out) _⟩
      | some v =>
        rw [hnum] at hO k66
        simp only [numT] at k66
        clear hnum
        by_cases h255 : 255 < v
        · have HX := Lib.hid (HBD.out (by rw [hO]; exact if_pos (.inl h255)))
          have hvI : (255 : Int) < (v : Int) := by omega
          clear hO HBD HSN
          go_wp2_with (first
            | (go_at_call 46; refine k66.mono ?_; rintro e w6 ⟨rfl, hf6⟩; have B6 := Lib.hid (B5.out.fr hf6 id); have C6 := Lib.hid (B2.out.fr hf6 id); have G6 := Lib.hid (G.out.trans (hf6.mono fun _ _ h => h.elim)); have W6 := Lib.hid (GW.out.trans hf6); obtain ⟨y0, y1, y2⟩ := B6.out.c3; have fz := B6.out.frozen 2)
            | (refine wpList_store_row rfl 25 _ _ rfl g2 _ rfl rfl _ _ C6.out rfl rfl (by simp [Value.oneCell']) ?_))
          refine ret_cell2 rfl rfl (C6.out.row _) Tryd.underlying25 rfl ⟨0, by rw [HX.out]; rfl, (fun lo h => by rw [HX.out] at h; cases h), Fr.setRow W6.out (.inr HG2.out) _⟩
        · have hd255 : decide ((255 : Int) < (v : Int)) = false := decide_eq_false (by omega)
          have hv256 : v < 256 := by omega
          by_cases h1 : 1 < t.size
          · have ht0 : 0 < t.size := by omega
            have h0t : (0 : Int) < (t.size : Int) := by omega
            have hd1 : (1 : Int) < (t.size : Int) := by omega
            have hH := head_of ht0
            by_cases hz : (t[0]'ht0).toNat = 48
            · have hq : t[0]'ht0 = 48 := UInt8.toNat_inj.1 hz
              have HX := Lib.hid (HBD.out (by rw [hO]; exact if_pos (.inr ⟨h1, by rw [hH, hq]⟩)))
              have e1 : (((t[0]'ht0).toNat : Int) == 48) = true := by simp [hq]
              clear hO HBD HSN hH hz hq
              go_wp2_with (first
                | (go_at_call 46; refine k66.mono ?_; rintro e w6 ⟨rfl, hf6⟩; have B6 := Lib.hid (B5.out.fr hf6 id); have C6 := Lib.hid (B2.out.fr hf6 id); have G6 := Lib.hid (G.out.trans (hf6.mono fun _ _ h => h.elim)); have W6 := Lib.hid (GW.out.trans hf6); obtain ⟨y0, y1, y2⟩ := B6.out.c3; have fz := B6.out.frozen 2)
                | (refine wpList_store_row rfl 25 _ _ rfl g2 _ rfl rfl _ _ C6.out rfl rfl (by simp [Value.oneCell']) ?_))
              refine ret_cell2 rfl rfl (C6.out.row _) Tryd.underlying25 rfl ⟨0, by rw [HX.out]; rfl, (fun lo h => by rw [HX.out] at h; cases h), Fr.setRow W6.out (.inr HG2.out) _⟩
            · have hOk : octP t.data.toList = some v := by
                rw [hO]
                refine if_neg ?_
                rintro (h | ⟨_, h⟩)
                · omega
                · rw [hH] at h
                  injection h with h
                  exact hz (by rw [h]; rfl)
              have e1 : (((t[0]'ht0).toNat : Int) == 48) = false := by simp; omega
              have HU2 := Lib.hid (show octs ((ts.take (j + 1)).map (·.data.toList)) = some (us ++ [v]) by rw [HSN.out, hOk])
              have HLT := Lib.hid (shl8_lt (lo := lo) hv256)
              have HOR := Lib.hid (shl8_bits (lo := lo) hv256)
              have HA2' := Lib.hid (show j + 1 ≤ 4 → shl8 lo v = acc (us ++ [v]) from fun h => by
                have e := HAC.out (by omega)
                have hl := octs_len _ _ HUS.out
                rw [List.length_map, List.length_take] at hl
                have hb := acc_lt us.length us rfl (octs_lt _ _ HUS.out)
                have h3 : 256 ^ us.length ≤ 256 ^ 3 := Nat.pow_le_pow_right (by omega) (by omega)
                rw [acc_snoc, ← e, shl8_small (by rw [e]; omega) hv256])
              clear hO hOk HBD HSN
              clear hH hz
              go_wp2_with (go_at_call 46; refine k66.mono ?_; rintro e w6 ⟨rfl, hf6⟩; have B6 := Lib.hid (B5.out.fr hf6 id); have C6 := Lib.hid (B2.out.fr hf6 id); have G6 := Lib.hid (G.out.trans (hf6.mono fun _ _ h => h.elim)); have W6 := Lib.hid (GW.out.trans hf6); obtain ⟨y0, y1, y2⟩ := B6.out.c3; have fz := B6.out.frozen 2)
              go_roundw
              case rel =>
                have HB : Blk (w6.setCell ⟨g5, 2, none⟩ (Value.int IntKind.u64 (bits BinOp.or IntKind.u64 (IntKind.u64.wrap (↑lo * 256)) ↑v))) g5 25 #[.bool false, .int .u64 0, .int .u64 (shl8 lo v : Int)] := by
                  rw [HOR.out]
                  exact B6.out.set_ 2 _
                exact ⟨j + 1, shl8 lo v, us ++ [v], by omega, by go_num, HLT.out, HU2.out, HA2'.out, HB, G6.out.setCell (.inl rfl) _⟩
              case measure => simp [RowKit.intOf]; omega
          · have hd1 : decide (1 < (t.size : Int)) = false := decide_eq_false (by omega)
            have hOk : octP t.data.toList = some v := by
              rw [hO]
              refine if_neg ?_
              rintro (h | ⟨h, _⟩) <;> omega
            have HU2 := Lib.hid (show octs ((ts.take (j + 1)).map (·.data.toList)) = some (us ++ [v]) by rw [HSN.out, hOk])
            have HLT := Lib.hid (shl8_lt (lo := lo) hv256)
            have HOR := Lib.hid (shl8_bits (lo := lo) hv256)
            have HA2' := Lib.hid (show j + 1 ≤ 4 → shl8 lo v = acc (us ++ [v]) from fun h => by
              have e := HAC.out (by omega)
              have hl := octs_len _ _ HUS.out
              rw [List.length_map, List.length_take] at hl
              have hb := acc_lt us.length us rfl (octs_lt _ _ HUS.out)
              have h3 : 256 ^ us.length ≤ 256 ^ 3 := Nat.pow_le_pow_right (by omega) (by omega)
              rw [acc_snoc, ← e, shl8_small (by rw [e]; omega) hv256])
            clear hO hOk HBD HSN
            go_wp2_with (go_at_call 46; refine k66.mono ?_; rintro e w6 ⟨rfl, hf6⟩; have B6 := Lib.hid (B5.out.fr hf6 id); have C6 := Lib.hid (B2.out.fr hf6 id); have G6 := Lib.hid (G.out.trans (hf6.mono fun _ _ h => h.elim)); have W6 := Lib.hid (GW.out.trans hf6); obtain ⟨y0, y1, y2⟩ := B6.out.c3; have fz := B6.out.frozen 2)
            go_roundw
            case rel =>
              have HB : Blk (w6.setCell ⟨g5, 2, none⟩ (Value.int IntKind.u64 (bits BinOp.or IntKind.u64 (IntKind.u64.wrap (↑lo * 256)) ↑v))) g5 25 #[.bool false, .int .u64 0, .int .u64 (shl8 lo v : Int)] := by
                rw [HOR.out]
                exact B6.out.set_ 2 _
              exact ⟨j + 1, shl8 lo v, us ++ [v], by omega, by go_num, HLT.out, HU2.out, HA2'.out, HB, G6.out.setCell (.inl rfl) _⟩
            case measure => simp [RowKit.intOf]; omega
    · obtain rfl : j = n := by omega
      obtain ⟨z0, z1, z2⟩ := B5.out.c3
      have hfull : octs (ts.map (·.data.toList)) = some us := by
        have := HUS.out
        rwa [List.take_of_length_le (by rw [← HN.out]; exact Nat.le_refl _)] at this
      have hlen : (ts.map (·.data.toList)).length = j := by rw [List.length_map, HN.out]
      have hF4 : fourP (ts.map (·.data.toList)) = if j = 4 then some (acc us) else none := by
        unfold fourP
        rw [hlen, hfull]
        rfl
      have HF4 := Lib.hid hF4
      clear hfull hlen hF4
      by_cases h4 : j = 4
      · have e1 : decide (j = 4) = true := decide_eq_true h4
        have e2 : ((j : Int) == 4) = true := by simp; omega
        have e3 : decide ((j : Int) = 4) = true := decide_eq_true (by omega)
        go_wp2_with (refine wpList_store_row rfl 25 _ _ rfl g2 _ rfl rfl _ _ B2.out rfl rfl (by simp [Value.oneCell']) ?_)
        refine ret_cell2 rfl rfl (B2.out.row _) Tryd.underlying25 rfl ⟨lo, ?_, ?_, Fr.setRow GW.out (.inr HG2.out) _⟩
        · rw [HF4.out, if_pos h4]; rfl
        · intro l h
          rw [HF4.out, if_pos h4] at h
          cases h
          exact HAC.out (by omega)
      · have e1 : decide (j = 4) = false := decide_eq_false h4
        have e2 : ((j : Int) == 4) = false := by simp; omega
        have e3 : decide ((j : Int) = 4) = false := decide_eq_false (by omega)
        go_wp2_with (refine wpList_store_row rfl 25 _ _ rfl g2 _ rfl rfl _ _ B2.out rfl rfl (by simp [Value.oneCell']) ?_)
        refine ret_cell2 rfl rfl (B2.out.row _) Tryd.underlying25 rfl ⟨lo, ?_, ?_, Fr.setRow GW.out (.inr HG2.out) _⟩
        · rw [HF4.out, if_neg h4]; rfl
        · intro l h
          rw [HF4.out, if_neg h4] at h
          cases h
end
end Go.Proofs.YtejddfgmfdpnfaaDoor
namespace Go.Proofs.YtejddfgmfdpnfaaDoor
open Go.Proofs Go.Shelf Go.RowKit
section
variable {w : World}
set_option maxHeartbeats 3200000 in
set_option maxRecDepth 100000 in
theorem of4 (g c : Nat) (bs : List Nat) (h4 : bs.length = 4) (hB : ∀ (i x : Nat), bs[i]? = some x → w.cell? ⟨g, i, none⟩ = some (.int .u8 (x : Int))) (hlt : ∀ u ∈ bs, u < 256) : Calls Tryd.prog 24 #[.slice (some ⟨g, 0, none⟩) 4 c] w fun e w' => e = .returned (.tuple #[adV ⟨false, 0, acc bs⟩, .int .i64 0]) ∧ Fr N0 w w' := by
  have HB := Lib.hid hB
  have HL := Lib.hid hlt
  have H4 := Lib.hid h4
  have hgl : g < w.heap.size := World.block_lt_of_cell? _ _ (HB.out 0 (bs[0]'(by rw [H4.out]; omega)) (List.getElem?_eq_getElem (by rw [H4.out]; omega)))
  have HGL := Lib.hid hgl
  clear hB hlt h4
  go_enter Tryd.func24, Tryd.ntmps24
  go_wp2_with fail
  have HF2 := Lib.hid (Fr.alloc (Fr.alloc (Fr.refl N0 w) (.cells #[.bool false, .int .u64 0, .int .u64 0] 25)) (.cells #[.bool false, .int .u64 0, .int .u64 0] 25))
  have HB2 := Lib.hid ((Blk.new w 25 #[.bool false, .int .u64 0, .int .u64 0]).alloc (.cells #[.bool false, .int .u64 0, .int .u64 0] 25))
  have HB5 := Lib.hid (Blk.alloc2 w (.cells #[.bool false, .int .u64 0, .int .u64 0] 25) 25 #[.bool false, .int .u64 0, .int .u64 0])
  generalize World.alloc (w.alloc _) _ = w2 at *
  obtain ⟨g5, hg5⟩ : ∃ g, g = w.heap.size + 1 := ⟨_, rfl⟩
  rw [← hg5] at HB5 ⊢
  obtain ⟨g2, hg2⟩ : ∃ g, g = w.heap.size := ⟨_, rfl⟩
  rw [← hg2] at HB2 ⊢
  have N25 := Lib.hid (show g2 ≠ g5 by omega)
  have NG5 := Lib.hid (show g ≠ g5 by omega)
  have HG5 := Lib.hid (show w.heap.size ≤ g5 by omega)
  have HG2 := Lib.hid (show w.heap.size ≤ g2 by omega)
  clear hg2 hg5 hgl
  go_loopw [22] (fun i wr => ∃ j : Nat, j ≤ 4 ∧ i = .int .i64 (j : Int) ∧ Blk wr g5 25 #[.bool false, .int .u64 0, .int .u64 (acc (bs.take j) : Int)] ∧ Fr (fun i => i = g5) w2 wr) (fun i _ => 5 - (RowKit.intOf i).toNat)
  case atStart => exact ⟨0, by omega, rfl, HB5.out, Fr.refl _ _⟩
  case round =>
    obtain ⟨j, hj, rfl, hb5, hF⟩ := hrel
    have B5 := Lib.hid hb5
    have G := Lib.hid hF
    have B2 := Lib.hid (HB2.out.fr hF N25.out)
    have BG : Hid (∀ (i x : Nat), bs[i]? = some x → wr.cell? ⟨g, i, none⟩ = some (.int .u8 (x : Int))) := Lib.hid fun i x h => (hF.cell (p := ⟨g, i, none⟩) (Nat.lt_of_lt_of_le HGL.out HF2.out.size) NG5.out).trans ((HF2.out.cell (p := ⟨g, i, none⟩) HGL.out id).trans (HB.out i x h))
    obtain ⟨z0, z1, z2⟩ := B5.out.c3
    clear hb5 hF
    by_cases hj4 : j < 4
    · have hjI : (j : Int) < 4 := by omega
      obtain ⟨u, hu⟩ : ∃ u, bs[j]? = some u := ⟨_, List.getElem?_eq_getElem (by rw [H4.out]; exact hj4)⟩
      have hu2 : u < 256 := HL.out u (List.mem_of_getElem? hu)
      have x0 := BG.out j u hu
      have fz := B5.out.frozen 2
      have hb := acc_lt _ (bs.take j) rfl (fun x hx => HL.out x (List.mem_of_mem_take hx))
      have hl : (bs.take j).length ≤ 3 := by rw [List.length_take]; omega
      have h3 : 256 ^ (bs.take j).length ≤ 256 ^ 3 := Nat.pow_le_pow_right (by omega) hl
      have hlo : acc (bs.take j) < 16777216 := by omega
      have HN := Lib.hid (show acc (bs.take (j + 1)) = shl8 (acc (bs.take j)) u by
        rw [List.take_add_one, hu, Option.toList_some, acc_snoc, shl8_small (by omega) hu2])
      clear hb hl h3 hu
      obtain ⟨lo, hlo2⟩ : ∃ lo, lo = acc (bs.take j) := ⟨_, rfl⟩
      rw [← hlo2] at z2 hlo HN B5
      have HLO := Lib.hid hlo2
      clear hlo2
      have HOR : Hid (bits .or .u64 ((lo : Int) * 256) (u : Int) = ((shl8 lo u : Nat) : Int)) := Lib.hid (by
        have h := shl8_bits (lo := lo) hu2
        have e : IntKind.u64.wrap ((lo : Int) * 256) = (lo : Int) * 256 := by rw [IntKind.wrap_u64]; omega
        rwa [e] at h)
      go_wp2_with fail
      refine ⟨⟨j + 1, by omega, by go_num, ?_, G.out.setCell (.inl rfl) _⟩, by simp [RowKit.intOf]; omega⟩
      rw [HOR.out, HN.out]
      exact B5.out.set_ 2 _
    · obtain rfl : j = 4 := by omega
      have hall : bs.take 4 = bs := List.take_of_length_le (by rw [H4.out]; exact Nat.le_refl _)
      rw [hall] at B5 z2
      go_wp2_with (refine wpList_store_row rfl 25 _ _ rfl g2 _ rfl rfl _ _ B2.out rfl rfl (by simp [Value.oneCell']) ?_)
      refine ret_cell2 rfl rfl (B2.out.row _) Tryd.underlying25 rfl ⟨rfl, Fr.setRow (HF2.out.step G.out fun i hi => .inr (hi ▸ HG5.out)) (.inr HG2.out) _⟩
set_option maxRecDepth 100000 in
theorem sol3 : Calls Tryd.prog 22 #[.agg #[.bool true, .int .u64 0, .int .u64 3]] w fun e w' => e = .returned (.agg #[.bool true, .int .u64 18375249429625044992, .int .u64 8573157379]) ∧ Fr N0 w w' := by
  go_enter Tryd.func22, Tryd.ntmps22
  go_wp2_with fail
  have e : bits .or .u64 8573157376 (bits .and .u64 3 16777215) = 8573157379 := by decide
  rw [e]
  exact ret_cell rfl rfl (Blk.alloc2 _ _ _ _) Tryd.underlying25 rfl ⟨rfl, ((Fr.refl _ _).alloc _).alloc _⟩
set_option maxRecDepth 100000 in
theorem cls1 : Calls Tryd.prog 20 #[.agg #[.bool true, .int .u64 0, .int .u64 1]] w fun e w' => e = .returned (.int .i64 1) ∧ Fr N0 w w' := by
  have e1 : ∀ (w : World), (binOp .eql 25 (.agg #[.bool true, .int .u64 0, .int .u64 1]) (.agg #[.bool true, .int .u64 0, .int .u64 0])).run Tryd.prog w = .ok (.bool false) w := eql_ad ⟨true, 0, 1⟩ ⟨true, 0, 0⟩
  have e2 : ∀ (w : World), (binOp .eql 25 (.agg #[.bool true, .int .u64 0, .int .u64 1]) (.agg #[.bool true, .int .u64 0, .int .u64 1])).run Tryd.prog w = .ok (.bool true) w := eql_ad ⟨true, 0, 1⟩ ⟨true, 0, 1⟩
  have q1 := fun X Y W => guard_ad .eql X Y ⟨true, 0, 1⟩ ⟨true, 0, 0⟩ W
  have q2 := fun X Y W => guard_ad .eql X Y ⟨true, 0, 1⟩ ⟨true, 0, 1⟩ W
  unfold adV at q1 q2
  have k : ∀ (w : World), Calls Tryd.prog 43 #[.agg #[.bool true, .int .u64 0, .int .u64 1]] w fun e w' => e = .returned (.int .i64 1) ∧ Fr N0 w w' := fun w => by
    go_enter Tryd.func43, Tryd.ntmps43
    go_wp2_with fail
    go_ret
    exact ⟨rfl, (Fr.refl _ _).alloc _⟩
  have k29 : ∀ (w : World), Calls Tryd.prog 18 #[.agg #[.bool true, .int .u64 0, .int .u64 1]] w fun e w' => e = .returned (.bool true) ∧ Fr N0 w w' := fun w => aval (w := w) ⟨true, 0, 1⟩
  clear e1 e2 q1 q2
  go_enter Tryd.func20, Tryd.ntmps20
  go_wp2_with fail
  have HA1 := Lib.hid (Blk.new w 25 #[Value.bool true, Value.int .u64 (0 : Int), Value.int .u64 (1 : Int)])
  have HF1 := Lib.hid (Fr.alloc (Fr.refl N0 w) (.cells #[Value.bool true, Value.int .u64 (0 : Int), Value.int .u64 (1 : Int)] 25))
  generalize w.alloc _ = w1 at *
  obtain ⟨g1, hg1⟩ : ∃ g1, g1 = w.heap.size := ⟨_, rfl⟩
  rw [← hg1] at HA1 ⊢
  have HG1 : Hid (w.heap.size ≤ g1) := Lib.hid (by omega)
  clear hg1
  have HZ1 : Hid (∀ W, Fr N0 w1 W → Blk W g1 25 #[Value.bool true, Value.int .u64 (0 : Int), Value.int .u64 (1 : Int)]) := Lib.hid fun W hf => HA1.out.fr hf id
  have F := Lib.hid (Fr.refl N0 w1)
  obtain ⟨z1_0, z1_1, z1_2⟩ := (HZ1.out _ F.out).c3
  go_wp2_with (first
    | (go_at_call 18; refine (k29 _).mono ?_; rintro e w2 ⟨rfl, hf⟩; have F := Lib.hid (F.out.trans hf); obtain ⟨z1_0, z1_1, z1_2⟩ := (HZ1.out _ F.out).c3)
    | (go_at_call 43; refine (k _).mono ?_; rintro e w3 ⟨rfl, hf⟩; have F := Lib.hid (F.out.trans hf); obtain ⟨z1_0, z1_1, z1_2⟩ := (HZ1.out _ F.out).c3))
  go_ret
  exact ⟨rfl, HF1.out.trans F.out⟩
end
end Go.Proofs.YtejddfgmfdpnfaaDoor
namespace Go.Proofs.YtejddfgmfdpnfaaDoor
open Go.Proofs Go.Shelf Go.RowKit
def clsA (a : Ad) : Int :=
  if validA a = false then -1 else if a.six = true then (if a.hi = 0 ∧ a.lo = 0 then 0 else if a.hi = 0 ∧ a.lo = 1 then 1 else if a.hi / 18014398509481984 = 1018 then 2 else if a.hi / 72057594037927936 = 255 then 3 else 5)
  else if a.lo = 0 then 0 else if a.lo / 16777216 = 127 then 1 else if a.lo / 65536 = 43518 then 2 else if a.lo = 4294967295 then 4 else if a.lo / 268435456 = 14 then 3 else 5
def solA (a : Ad) : Ad := if a.six = true then ⟨true, 18375249429625044992, 8573157376 + a.lo % 16777216⟩ else ⟨false, 0, 0⟩
theorem sol_or (l : Nat) (h : l < 18446744073709551616) : bits .or .u64 8573157376 (bits .and .u64 (l : Int) 16777215) = ((8573157376 + l % 16777216 : Nat) : Int) := by
  have e : bits .and .u64 (l : Int) 16777215 = ((l % 16777216 : Nat) : Int) := by
    show IntKind.u64.wrap ((BitVec.ofInt 64 (l : Int) &&& BitVec.ofInt 64 16777215).toNat : Int) = _
    have h2 : (BitVec.ofInt 64 (16777215 : Int)).toNat = 2 ^ 24 - 1 := by decide
    rw [BitVec.toNat_and, h2, Nat.and_two_pow_sub_one_eq_mod, BitVec.ofInt_natCast, BitVec.toNat_ofNat, Nat.mod_eq_of_lt h, IntKind.wrap_u64]
    have : l % 2 ^ 24 < 16777216 := Nat.mod_lt _ (by omega)
    have e : l % 2 ^ 24 = l % 16777216 := rfl
    omega
  have hm : l % 16777216 < 16777216 := Nat.mod_lt _ (by omega)
  rw [e, show (8573157376 : Int) = ((8573157376 : Nat) : Int) from rfl, bits_or_u64_nat _ _ (by omega) (by omega)]
  congr 1
  have := Nat.two_pow_add_eq_or_of_lt (i := 24) (show l % 16777216 < 2 ^ 24 from hm) 511
  rw [show (2 : Nat) ^ 24 * 511 = 8573157376 by decide] at this
  exact this.symm
section
variable {w : World}
set_option maxHeartbeats 1600000 in
set_option maxRecDepth 100000 in
theorem sol_ (a : Ad) (ho : a.ok) : Calls Tryd.prog 22 #[adV a] w fun e w' => e = .returned (adV (solA a)) ∧ Fr N0 w w' := by
  obtain ⟨s, h, l⟩ := a
  cases s with
  | false =>
    go_enter Tryd.func22, Tryd.ntmps22
    unfold adV
    go_wp2_with fail
    exact ret_cell rfl rfl (Blk.alloc2 _ _ _ _) Tryd.underlying25 rfl ⟨rfl, ((Fr.refl _ _).alloc _).alloc _⟩
  | true =>
    have e := sol_or l ho.2
    have HE := Lib.hid e
    clear e
    go_enter Tryd.func22, Tryd.ntmps22
    unfold adV
    go_wp2_with fail
    rw [HE.out]
    exact ret_cell rfl rfl (Blk.alloc2 _ _ _ _) Tryd.underlying25 rfl ⟨rfl, ((Fr.refl _ _).alloc _).alloc _⟩
set_option maxHeartbeats 1600000 in
set_option maxRecDepth 100000 in
theorem cls6 (h l : Nat) (_ho : h < 18446744073709551616) : Calls Tryd.prog 43 #[adV ⟨true, h, l⟩] w fun e w' => e = .returned (.int .i64 (clsA ⟨true, h, l⟩)) ∧ Fr N0 w w' := by
  obtain ⟨d1, hd1⟩ : ∃ d, d = decide ((⟨true, h, l⟩ : Ad) = ⟨true, 0, 0⟩) := ⟨_, rfl⟩
  obtain ⟨d2, hd2⟩ : ∃ d, d = decide ((⟨true, h, l⟩ : Ad) = ⟨true, 0, 1⟩) := ⟨_, rfl⟩
  have e1 : ∀ (w : World), (binOp .eql 25 (.agg #[.bool true, .int .u64 (h : Int), .int .u64 (l : Int)]) (.agg #[.bool true, .int .u64 0, .int .u64 0])).run Tryd.prog w = .ok (.bool d1) w := fun w => by rw [hd1]; exact eql_ad ⟨true, h, l⟩ ⟨true, 0, 0⟩ w
  have e2 : ∀ (w : World), (binOp .eql 25 (.agg #[.bool true, .int .u64 (h : Int), .int .u64 (l : Int)]) (.agg #[.bool true, .int .u64 0, .int .u64 1])).run Tryd.prog w = .ok (.bool d2) w := fun w => by rw [hd2]; exact eql_ad ⟨true, h, l⟩ ⟨true, 0, 1⟩ w
  have q1 := fun X Y W => guard_ad .eql X Y ⟨true, h, l⟩ ⟨true, 0, 0⟩ W
  have q2 := fun X Y W => guard_ad .eql X Y ⟨true, h, l⟩ ⟨true, 0, 1⟩ W
  unfold adV at q1 q2
  have hf : clsA ⟨true, h, l⟩ = if d1 = true then 0 else if d2 = true then 1 else if h / 18014398509481984 = 1018 then 2 else if h / 72057594037927936 = 255 then 3 else 5 := by
    rw [hd1, hd2]
    unfold clsA
    simp [validA]
  have HF := Lib.hid hf
  clear hf hd1 hd2
  cases d1 with
  | true =>
    go_enter Tryd.func43, Tryd.ntmps43
    unfold adV
    go_wp2_with fail
    go_ret
    exact ⟨by rw [HF.out]; rfl, (Fr.refl _ _).alloc _⟩
  | false =>
    cases d2 with
    | true =>
      go_enter Tryd.func43, Tryd.ntmps43
      unfold adV
      go_wp2_with fail
      go_ret
      exact ⟨by rw [HF.out]; rfl, (Fr.refl _ _).alloc _⟩
    | false =>
      go_enter Tryd.func43, Tryd.ntmps43
      unfold adV
      go_wp2_with fail
      all_goals go_ret
      all_goals refine ⟨ret_eq ?_, (Fr.refl _ _).alloc _⟩
      all_goals (clear e1 e2 q1 q2; rw [HF.out]; clear HF; simp only [beq_iff_eq, beq_eq_false_iff_ne, ne_eq] at *; simp; first | omega | ((repeat' split) <;> omega))
set_option maxHeartbeats 1600000 in
set_option maxRecDepth 100000 in
theorem cls_ (a : Ad) (ho : a.ok) : Calls Tryd.prog 20 #[adV a] w fun e w' => e = .returned (.int .i64 (clsA a)) ∧ Fr N0 w w' := by
  obtain ⟨s, h, l⟩ := a
  obtain ⟨ho1, ho2⟩ := ho
  simp only at ho1 ho2
  have c29 : ∀ (w : World) {b : Bool}, validA ⟨s, h, l⟩ = b → Calls Tryd.prog 18 #[.agg #[.bool s, .int .u64 (h : Int), .int .u64 (l : Int)]] w fun e w' => e = .returned (.bool b) ∧ Fr N0 w w' := fun w b hb => hb ▸ aval (w := w) ⟨s, h, l⟩
  cases hv : validA ⟨s, h, l⟩ with
  | false =>
    have k29 := fun w => c29 w hv
    have hf : clsA ⟨s, h, l⟩ = -1 := by unfold clsA; rw [if_pos hv]
    rw [hf]
    clear c29 hv hf
    go_enter Tryd.func20, Tryd.ntmps20
    unfold adV
    go_wp2_with fail
    have HA1 := Lib.hid (Blk.new w 25 #[Value.bool s, Value.int .u64 (h : Int), Value.int .u64 (l : Int)])
    have HF1 := Lib.hid (Fr.alloc (Fr.refl N0 w) (.cells #[Value.bool s, Value.int .u64 (h : Int), Value.int .u64 (l : Int)] 25))
    generalize w.alloc _ = w1 at *
    obtain ⟨g1, hg1⟩ : ∃ g1, g1 = w.heap.size := ⟨_, rfl⟩
    rw [← hg1] at HA1 ⊢
    have HG1 : Hid (w.heap.size ≤ g1) := Lib.hid (by omega)
    clear hg1
    have HZ1 : Hid (∀ W, Fr N0 w1 W → Blk W g1 25 #[Value.bool s, Value.int .u64 (h : Int), Value.int .u64 (l : Int)]) := Lib.hid fun W hf => HA1.out.fr hf id
    have F := Lib.hid (Fr.refl N0 w1)
    obtain ⟨z1_0, z1_1, z1_2⟩ := (HZ1.out _ F.out).c3
    go_wp2_with (first
      | (go_at_call 18; refine (k29 _).mono ?_; rintro e w2 ⟨rfl, hf⟩; have F := Lib.hid (F.out.trans hf); obtain ⟨z1_0, z1_1, z1_2⟩ := (HZ1.out _ F.out).c3))
    go_ret
    exact ⟨rfl, HF1.out.trans F.out⟩
  | true =>
    have k29 := fun w => c29 w hv
    clear c29
    cases s with
    | true =>
      have k := fun (w : World) => cls6 (w := w) h l ho1
      unfold adV at k
      obtain ⟨r, hr⟩ : ∃ r, r = clsA ⟨true, h, l⟩ := ⟨_, rfl⟩
      rw [← hr] at k ⊢
      clear hv hr
      go_enter Tryd.func20, Tryd.ntmps20
      unfold adV
      go_wp2_with fail
      have HA1 := Lib.hid (Blk.new w 25 #[Value.bool true, Value.int .u64 (h : Int), Value.int .u64 (l : Int)])
      have HF1 := Lib.hid (Fr.alloc (Fr.refl N0 w) (.cells #[Value.bool true, Value.int .u64 (h : Int), Value.int .u64 (l : Int)] 25))
      generalize w.alloc _ = w1 at *
      obtain ⟨g1, hg1⟩ : ∃ g1, g1 = w.heap.size := ⟨_, rfl⟩
      rw [← hg1] at HA1 ⊢
      have HG1 : Hid (w.heap.size ≤ g1) := Lib.hid (by omega)
      clear hg1
      have HZ1 : Hid (∀ W, Fr N0 w1 W → Blk W g1 25 #[Value.bool true, Value.int .u64 (h : Int), Value.int .u64 (l : Int)]) := Lib.hid fun W hf => HA1.out.fr hf id
      have F := Lib.hid (Fr.refl N0 w1)
      obtain ⟨z1_0, z1_1, z1_2⟩ := (HZ1.out _ F.out).c3
      go_wp2_with (first
        | (go_at_call 18; refine (k29 _).mono ?_; rintro e w2 ⟨rfl, hf⟩; have F := Lib.hid (F.out.trans hf); obtain ⟨z1_0, z1_1, z1_2⟩ := (HZ1.out _ F.out).c3)
        | (go_at_call 43; refine (k _).mono ?_; rintro e w3 ⟨rfl, hf⟩; have F := Lib.hid (F.out.trans hf); obtain ⟨z1_0, z1_1, z1_2⟩ := (HZ1.out _ F.out).c3))
      go_ret
      exact ⟨rfl, HF1.out.trans F.out⟩
    | false =>
      have hf : clsA ⟨false, h, l⟩ = if l = 0 then 0 else if l / 16777216 = 127 then 1 else if l / 65536 = 43518 then 2 else if l = 4294967295 then 4 else if l / 268435456 = 14 then 3 else 5 := by
        unfold clsA
        rw [if_neg (by rw [hv]; decide)]
        rfl
      have HFF := Lib.hid hf
      clear hf hv
      go_enter Tryd.func20, Tryd.ntmps20
      unfold adV
      go_wp2_with fail
      have HA1 := Lib.hid (Blk.new w 25 #[Value.bool false, Value.int .u64 (h : Int), Value.int .u64 (l : Int)])
      have HF1 := Lib.hid (Fr.alloc (Fr.refl N0 w) (.cells #[Value.bool false, Value.int .u64 (h : Int), Value.int .u64 (l : Int)] 25))
      generalize w.alloc _ = w1 at *
      obtain ⟨g1, hg1⟩ : ∃ g1, g1 = w.heap.size := ⟨_, rfl⟩
      rw [← hg1] at HA1 ⊢
      have HG1 : Hid (w.heap.size ≤ g1) := Lib.hid (by omega)
      clear hg1
      have HZ1 : Hid (∀ W, Fr N0 w1 W → Blk W g1 25 #[Value.bool false, Value.int .u64 (h : Int), Value.int .u64 (l : Int)]) := Lib.hid fun W hf => HA1.out.fr hf id
      have F := Lib.hid (Fr.refl N0 w1)
      obtain ⟨z1_0, z1_1, z1_2⟩ := (HZ1.out _ F.out).c3
      go_wp2_with (first
        | (go_at_call 18; refine (k29 _).mono ?_; rintro e w2 ⟨rfl, hf⟩; have F := Lib.hid (F.out.trans hf); obtain ⟨z1_0, z1_1, z1_2⟩ := (HZ1.out _ F.out).c3))
      all_goals go_ret
      all_goals refine ⟨ret_eq ?_, HF1.out.trans F.out⟩
      all_goals (clear k29 z1_0 z1_1 z1_2; rw [HFF.out]; clear HFF; simp only [beq_iff_eq, beq_eq_false_iff_ne, ne_eq] at *; first | omega | ((repeat' split) <;> omega))
end
end Go.Proofs.YtejddfgmfdpnfaaDoor
namespace Go.Proofs.YtejddfgmfdpnfaaDoor
open Go.Proofs Go.Shelf Go.RowKit
/-- What bytes are as an address. -/
def ofB (bs : List Nat) : Ad × Int := if bs.length = 4 then (⟨false, 0, acc bs⟩, 0) else if bs.length = 16 then (⟨true, acc (bs.take 8), acc (bs.drop 8)⟩, 0) else (⟨false, 0, 0⟩, 20)
section
variable {w : World}
set_option maxHeartbeats 3200000 in
set_option maxRecDepth 100000 in
theorem of_bad (A : Option Addr) (n c : Nat) (h4 : n ≠ 4) (h16 : n ≠ 16) : Calls Tryd.prog 24 #[.slice A n c] w fun e w' => e = .returned (.tuple #[adV ⟨false, 0, 0⟩, .int .i64 20]) ∧ Fr N0 w w' := by
  have e1 : ((n : Int) == 4) = false := by simp; omega
  have e2 : ((n : Int) == 16) = false := by simp; omega
  have e3 : decide ((n : Int) = 4) = false := decide_eq_false (by omega)
  have e4 : decide ((n : Int) = 16) = false := decide_eq_false (by omega)
  have e5 : decide (n = 4) = false := decide_eq_false h4
  have e6 : decide (n = 16) = false := decide_eq_false h16
  have i1 : ((n : Int) != 4) = true := by simp; omega
  have i2 : ((n : Int) != 16) = true := by simp; omega
  have i3 : ¬ (n : Int) = 4 := by omega
  have i4 : ¬ (n : Int) = 16 := by omega
  go_enter Tryd.func24, Tryd.ntmps24
  go_wp2_with (refine wpList_store_row rfl 25 _ _ rfl w.heap.size _ rfl rfl _ _ ((Blk.new w 25 #[.bool false, .int .u64 0, .int .u64 0]).alloc (.cells #[.bool false, .int .u64 0, .int .u64 0] 25)) rfl rfl (by simp [Value.oneCell']) ?_)
  refine ret_cell2 rfl rfl (((Blk.new w 25 #[.bool false, .int .u64 0, .int .u64 0]).alloc (.cells #[.bool false, .int .u64 0, .int .u64 0] 25)).row _) Tryd.underlying25 rfl ⟨rfl, Fr.setRow (((Fr.refl N0 w).alloc _).alloc _) (.inr (Nat.le_refl _)) _⟩
set_option maxHeartbeats 3200000 in
set_option maxRecDepth 100000 in
theorem of16 (g c : Nat) (bs : List Nat) (h4 : bs.length = 16) (hB : ∀ (i x : Nat), bs[i]? = some x → w.cell? ⟨g, i, none⟩ = some (.int .u8 (x : Int))) (hlt : ∀ u ∈ bs, u < 256) : Calls Tryd.prog 24 #[.slice (some ⟨g, 0, none⟩) 16 c] w fun e w' => e = .returned (.tuple #[adV ⟨true, acc (bs.take 8), acc (bs.drop 8)⟩, .int .i64 0]) ∧ Fr N0 w w' := by
  have HB := Lib.hid hB
  have HL := Lib.hid hlt
  have H4 := Lib.hid h4
  have hgl : g < w.heap.size := World.block_lt_of_cell? _ _ (HB.out 0 (bs[0]'(by rw [H4.out]; omega)) (List.getElem?_eq_getElem (by rw [H4.out]; omega)))
  have HGL := Lib.hid hgl
  clear hB hlt h4
  go_enter Tryd.func24, Tryd.ntmps24
  go_wp2_with fail
  have HF2 := Lib.hid (Fr.alloc (Fr.alloc (Fr.refl N0 w) (.cells #[.bool false, .int .u64 0, .int .u64 0] 25)) (.cells #[.bool true, .int .u64 0, .int .u64 0] 25))
  have HB2 := Lib.hid ((Blk.new w 25 #[.bool false, .int .u64 0, .int .u64 0]).alloc (.cells #[.bool true, .int .u64 0, .int .u64 0] 25))
  have HB5 := Lib.hid (Blk.alloc2 w (.cells #[.bool false, .int .u64 0, .int .u64 0] 25) 25 #[.bool true, .int .u64 0, .int .u64 0])
  generalize World.alloc (w.alloc _) _ = w2 at *
  obtain ⟨g5, hg5⟩ : ∃ g, g = w.heap.size + 1 := ⟨_, rfl⟩
  rw [← hg5] at HB5 ⊢
  obtain ⟨g2, hg2⟩ : ∃ g, g = w.heap.size := ⟨_, rfl⟩
  rw [← hg2] at HB2 ⊢
  have N25 := Lib.hid (show g2 ≠ g5 by omega)
  have NG5 := Lib.hid (show g ≠ g5 by omega)
  have HG5 := Lib.hid (show w.heap.size ≤ g5 by omega)
  have HG2 := Lib.hid (show w.heap.size ≤ g2 by omega)
  clear hg2 hg5 hgl
  go_loopw [22] (fun i wr => ∃ j : Nat, j ≤ 16 ∧ i = .int .i64 (j : Int) ∧ Blk wr g5 25 #[.bool true, .int .u64 (acc ((bs.take 8).take j) : Int), .int .u64 (acc ((bs.drop 8).take (j - 8)) : Int)] ∧ Fr (fun i => i = g5) w2 wr) (fun i _ => 17 - (RowKit.intOf i).toNat)
  case atStart => exact ⟨0, by omega, rfl, HB5.out, Fr.refl _ _⟩
  case round =>
    obtain ⟨j, hj, rfl, hb5, hF⟩ := hrel
    have B5 := Lib.hid hb5
    have G := Lib.hid hF
    have B2 := Lib.hid (HB2.out.fr hF N25.out)
    have BG : Hid (∀ (i x : Nat), bs[i]? = some x → wr.cell? ⟨g, i, none⟩ = some (.int .u8 (x : Int))) := Lib.hid fun i x h => (hF.cell (p := ⟨g, i, none⟩) (Nat.lt_of_lt_of_le HGL.out HF2.out.size) NG5.out).trans ((HF2.out.cell (p := ⟨g, i, none⟩) HGL.out id).trans (HB.out i x h))
    clear hb5 hF
    by_cases hj4 : j < 16
    · have hjI : (j : Int) < 16 := by omega
      obtain ⟨u, hu⟩ : ∃ u, bs[j]? = some u := ⟨_, List.getElem?_eq_getElem (by rw [H4.out]; exact hj4)⟩
      have hu2 : u < 256 := HL.out u (List.mem_of_getElem? hu)
      have x0 := BG.out j u hu
      have HOR := Lib.hid fun (lo : Nat) => shl8_bits (lo := lo) hu2
      by_cases hj8 : j < 8
      · have hj8I : (j : Int) < 8 := by omega
        have e0 : j - 8 = 0 := by omega
        have e1 : j + 1 - 8 = 0 := by omega
        have hb := acc_lt _ ((bs.take 8).take j) rfl (fun x hx => HL.out x (List.mem_of_mem_take (List.mem_of_mem_take hx)))
        have hl : ((bs.take 8).take j).length ≤ 7 := by rw [List.length_take]; omega
        have h3 : 256 ^ ((bs.take 8).take j).length ≤ 256 ^ 7 := Nat.pow_le_pow_right (by omega) hl
        have HN := Lib.hid (show acc ((bs.take 8).take (j + 1)) = shl8 (acc ((bs.take 8).take j)) u by
          rw [List.take_add_one, List.getElem?_take, if_pos hj8, hu, Option.toList_some, acc_snoc, shl8_small (by omega) hu2])
        have hlo : acc ((bs.take 8).take j) < 72057594037927936 := by omega
        have hLO : acc ((bs.drop 8).take 0) = 0 := rfl
        rw [e0, hLO] at B5
        clear hb hl h3 hu hLO e0
        obtain ⟨lo, hlo2⟩ : ∃ lo, lo = acc ((bs.take 8).take j) := ⟨_, rfl⟩
        rw [← hlo2] at hlo HN B5
        clear hlo2
        have HO1 := Lib.hid (HOR.out lo)
        have HO2 : Hid (bits .or .u64 ((lo : Int) * 256) (u : Int) = ((shl8 lo u : Nat) : Int)) := Lib.hid (by
          have h := HOR.out lo
          have e : IntKind.u64.wrap ((lo : Int) * 256) = (lo : Int) * 256 := by rw [IntKind.wrap_u64]; omega
          rwa [e] at h)
        obtain ⟨z0, z1, z2⟩ := B5.out.c3
        have fz := B5.out.frozen 1
        go_wp2_with fail
        refine ⟨⟨j + 1, by omega, by go_num, ?_, G.out.setCell (.inl rfl) _⟩, by simp [RowKit.intOf]; omega⟩
        rw [HN.out, e1]
        first | rw [HO2.out] | rw [HO1.out]
        exact B5.out.set_ 1 _
      · have hj8I : decide ((j : Int) < 8) = false := decide_eq_false (by omega)
        have e0 : (bs.take 8).take j = bs.take 8 := List.take_of_length_le (by rw [List.length_take]; omega)
        have e1 : (bs.take 8).take (j + 1) = bs.take 8 := List.take_of_length_le (by rw [List.length_take]; omega)
        obtain ⟨i, rfl⟩ : ∃ i, j = 8 + i := ⟨j - 8, by omega⟩
        have e2 : 8 + i - 8 = i := by omega
        have e3 : 8 + i + 1 - 8 = i + 1 := by omega
        rw [e0, e2] at B5
        have hb := acc_lt _ ((bs.drop 8).take i) rfl (fun x hx => HL.out x (List.mem_of_mem_drop (List.mem_of_mem_take hx)))
        have hl : ((bs.drop 8).take i).length ≤ 7 := by rw [List.length_take]; omega
        have h3 : 256 ^ ((bs.drop 8).take i).length ≤ 256 ^ 7 := Nat.pow_le_pow_right (by omega) hl
        have HN := Lib.hid (show acc ((bs.drop 8).take (i + 1)) = shl8 (acc ((bs.drop 8).take i)) u by
          rw [List.take_add_one, List.getElem?_drop, hu, Option.toList_some, acc_snoc, shl8_small (by omega) hu2])
        have hlo : acc ((bs.drop 8).take i) < 72057594037927936 := by omega
        have HE := Lib.hid e1
        have HE3 := Lib.hid e3
        clear hb hl h3 hu e0 e2 e1 e3
        obtain ⟨lo, hlo2⟩ : ∃ lo, lo = acc ((bs.drop 8).take i) := ⟨_, rfl⟩
        rw [← hlo2] at hlo HN B5
        clear hlo2
        generalize hhi : acc (bs.take 8) = hi at *
        have HHI := Lib.hid hhi
        clear hhi
        have HO1 := Lib.hid (HOR.out lo)
        have HO2 : Hid (bits .or .u64 ((lo : Int) * 256) (u : Int) = ((shl8 lo u : Nat) : Int)) := Lib.hid (by
          have h := HOR.out lo
          have e : IntKind.u64.wrap ((lo : Int) * 256) = (lo : Int) * 256 := by rw [IntKind.wrap_u64]; omega
          rwa [e] at h)
        obtain ⟨z0, z1, z2⟩ := B5.out.c3
        have fz := B5.out.frozen 2
        go_wp2_with fail
        refine ⟨⟨8 + i + 1, by omega, by go_num, ?_, G.out.setCell (.inl rfl) _⟩, by simp [RowKit.intOf]; omega⟩
        rw [HE.out, HE3.out, HN.out, HHI.out]
        first | rw [HO2.out] | rw [HO1.out]
        exact B5.out.set_ 2 _
    · obtain rfl : j = 16 := by omega
      have hall : (bs.take 8).take 16 = bs.take 8 := List.take_of_length_le (by rw [List.length_take]; omega)
      have hall2 : (bs.drop 8).take (16 - 8) = bs.drop 8 := List.take_of_length_le (by rw [List.length_drop, H4.out]; omega)
      rw [hall, hall2] at B5
      obtain ⟨z0, z1, z2⟩ := B5.out.c3
      go_wp2_with (refine wpList_store_row rfl 25 _ _ rfl g2 _ rfl rfl _ _ B2.out rfl rfl (by simp [Value.oneCell']) ?_)
      refine ret_cell2 rfl rfl (B2.out.row _) Tryd.underlying25 rfl ⟨rfl, Fr.setRow (HF2.out.step G.out fun i hi => .inr (hi ▸ HG5.out)) (.inr HG2.out) _⟩
end
end Go.Proofs.YtejddfgmfdpnfaaDoor
namespace Go.Proofs.YtejddfgmfdpnfaaDoor
open Go.Proofs Go.Shelf Go.RowKit
section
variable {w : World}
set_option maxHeartbeats 3200000 in
set_option maxRecDepth 100000 in
theorem get_ (g o n c a k : Nat) (bs : List Nat) (hn : bs.length = n) (hk : k ≤ 8) (hak : a + k ≤ n) (hn16 : n ≤ 16) (hB : ∀ (i x : Nat), bs[i]? = some x → w.cell? ⟨g, o + i, none⟩ = some (.int .u8 (x : Int))) (hlt : ∀ u ∈ bs, u < 256) :
    Calls Tryd.prog 44 #[.slice (some ⟨g, o, none⟩) n c, .int .i64 (a : Int), .int .i64 (k : Int)] w fun e w' => e = .returned (.tuple #[.int .u64 (acc ((bs.drop a).take k) : Int), .bool true]) ∧ w = w' := by
  have HB := Lib.hid hB
  have HL := Lib.hid hlt
  have H4 := Lib.hid hn
  have i1 : ¬ (k : Int) < 0 := by omega
  have i2 : ¬ (8 : Int) < (k : Int) := by omega
  have i3 : ¬ (a : Int) < 0 := by omega
  have i4 : ¬ (n : Int) < (a : Int) := by omega
  have i5 : ¬ ((n : Int) - (a : Int)) < (k : Int) := by omega
  clear hB hlt hn
  go_enter Tryd.func44, Tryd.ntmps44
  go_wp2_with fail
  go_loop [8, 9] (fun v i => ∃ j : Nat, j ≤ k ∧ i = .int .i64 ((a : Int) + (j : Int)) ∧ v = .int .u64 (acc ((bs.drop a).take j) : Int)) (fun _ i => k + 1 - (RowKit.intOf i - a).toNat)
  case atStart => exact ⟨0, by omega, by simp, rfl⟩
  case round =>
    obtain ⟨j, hj, rfl, rfl⟩ := hrel
    by_cases hjk : j < k
    · have hjI : (a : Int) + (j : Int) < (a : Int) + (k : Int) := by omega
      obtain ⟨u, hu⟩ : ∃ u, bs[a + j]? = some u := ⟨_, List.getElem?_eq_getElem (by rw [H4.out]; omega)⟩
      have hu2 : u < 256 := HL.out u (List.mem_of_getElem? hu)
      have x0 := HB.out _ _ hu
      have hb := acc_lt _ ((bs.drop a).take j) rfl (fun x hx => HL.out x (List.mem_of_mem_drop (List.mem_of_mem_take hx)))
      have hl : ((bs.drop a).take j).length ≤ 7 := by rw [List.length_take]; omega
      have h3 : 256 ^ ((bs.drop a).take j).length ≤ 256 ^ 7 := Nat.pow_le_pow_right (by omega) hl
      have HN := Lib.hid (show acc ((bs.drop a).take (j + 1)) = acc ((bs.drop a).take j) * 256 + u by
        rw [List.take_add_one, List.getElem?_drop, hu, Option.toList_some, acc_snoc])
      have hlo : acc ((bs.drop a).take j) < 72057594037927936 := by omega
      clear hb hl h3 hu
      generalize acc ((bs.drop a).take j) = lo at *
      have han : (a : Int) + (j : Int) < (n : Int) := by omega
      have han0 : 0 ≤ (a : Int) + (j : Int) := by omega
      go_wp2_with fail
      refine ⟨⟨j + 1, by omega, by go_num, ?_⟩, by simp [RowKit.intOf]; omega⟩
      rw [HN.out]
      simp
    · obtain rfl : j = k := by omega
      go_wp2_with fail
      go_ret2
      exact ⟨rfl, rfl⟩
set_option maxHeartbeats 3200000 in
set_option maxRecDepth 100000 in
theorem rof_bad (A : Option Addr) (n c : Nat) (h4 : n ≠ 4) (h16 : n ≠ 16) : Calls Tryd.prog 25 #[.slice A n c] w fun e w' => e = .returned (.tuple #[adV ⟨false, 0, 0⟩, .int .i64 20]) ∧ Fr N0 w w' := by
  have e1 : ((n : Int) == 4) = false := by simp; omega
  have e2 : ((n : Int) == 16) = false := by simp; omega
  have i3 : ¬ (n : Int) = 4 := by omega
  have i4 : ¬ (n : Int) = 16 := by omega
  go_enter Tryd.func25, Tryd.ntmps25
  go_wp2_with (refine wpList_store_row rfl 25 _ _ rfl w.heap.size _ rfl rfl _ _ (Blk.new w 25 #[.bool false, .int .u64 0, .int .u64 0]) rfl rfl (by simp [Value.oneCell']) ?_)
  refine ret_cell2 rfl rfl ((Blk.new w 25 #[.bool false, .int .u64 0, .int .u64 0]).row _) Tryd.underlying25 rfl ⟨rfl, Fr.setRow ((Fr.refl N0 w).alloc _) (.inr (Nat.le_refl _)) _⟩
set_option maxHeartbeats 3200000 in
set_option maxRecDepth 100000 in
theorem rof4 (g o c : Nat) (bs : List Nat) (h4 : bs.length = 4) (hB : ∀ (i x : Nat), bs[i]? = some x → w.cell? ⟨g, o + i, none⟩ = some (.int .u8 (x : Int))) (hlt : ∀ u ∈ bs, u < 256) : Calls Tryd.prog 25 #[.slice (some ⟨g, o, none⟩) 4 c] w fun e w' => e = .returned (.tuple #[adV ⟨false, 0, acc bs⟩, .int .i64 0]) ∧ Fr N0 w w' := by
  have hg : g < w.heap.size := World.block_lt_of_cell? _ _ (hB 0 (bs[0]'(by omega)) (List.getElem?_eq_getElem (by omega)))
  have k44 := get_ (w := w.alloc (.cells #[.bool false, .int .u64 0, .int .u64 0] 25)) g o 4 c 0 4 bs h4 (by omega) (by omega) (by omega) (fun i x h => ((Fr.alloc (Fr.refl N0 w) _).cell hg id).trans (hB i x h)) hlt
  have e : (bs.drop 0).take 4 = bs := List.take_of_length_le (by simp [h4])
  rw [e] at k44
  replace k44 : Calls Tryd.prog 44 #[.slice (some ⟨g, o, none⟩) 4 c, .int .i64 0, .int .i64 4] (w.alloc (.cells #[.bool false, .int .u64 0, .int .u64 0] 25)) fun e w' => e = .returned (.tuple #[.int .u64 (acc bs : Int), .bool true]) ∧ (w.alloc (.cells #[.bool false, .int .u64 0, .int .u64 0] 25)) = w' := k44
  clear hB hlt h4 e hg
  go_enter Tryd.func25, Tryd.ntmps25
  go_wp2_with (first
    | (go_at_call 44; refine k44.mono ?_; rintro e w' ⟨rfl, rfl⟩)
    | (refine wpList_store_row rfl 25 _ _ rfl w.heap.size _ rfl rfl _ _ (Blk.new w 25 #[.bool false, .int .u64 0, .int .u64 0]) rfl rfl (by simp [Value.oneCell']) ?_))
  refine ret_cell2 rfl rfl ((Blk.new w 25 #[.bool false, .int .u64 0, .int .u64 0]).row _) Tryd.underlying25 rfl ⟨rfl, Fr.setRow ((Fr.refl N0 w).alloc _) (.inr (Nat.le_refl _)) _⟩
set_option maxHeartbeats 3200000 in
set_option maxRecDepth 100000 in
theorem rof16 (g o c : Nat) (bs : List Nat) (h4 : bs.length = 16) (hB : ∀ (i x : Nat), bs[i]? = some x → w.cell? ⟨g, o + i, none⟩ = some (.int .u8 (x : Int))) (hlt : ∀ u ∈ bs, u < 256) : Calls Tryd.prog 25 #[.slice (some ⟨g, o, none⟩) 16 c] w fun e w' => e = .returned (.tuple #[adV ⟨true, acc (bs.take 8), acc (bs.drop 8)⟩, .int .i64 0]) ∧ Fr N0 w w' := by
  have hg : g < w.heap.size := World.block_lt_of_cell? _ _ (hB 0 (bs[0]'(by omega)) (List.getElem?_eq_getElem (by omega)))
  have k1 := get_ (w := w.alloc (.cells #[.bool false, .int .u64 0, .int .u64 0] 25)) g o 16 c 0 8 bs h4 (by omega) (by omega) (by omega) (fun i x h => ((Fr.alloc (Fr.refl N0 w) _).cell hg id).trans (hB i x h)) hlt
  have k2 := get_ (w := w.alloc (.cells #[.bool false, .int .u64 0, .int .u64 0] 25)) g o 16 c 8 8 bs h4 (by omega) (by omega) (by omega) (fun i x h => ((Fr.alloc (Fr.refl N0 w) _).cell hg id).trans (hB i x h)) hlt
  have e2 : (bs.drop 8).take 8 = bs.drop 8 := List.take_of_length_le (by simp [h4])
  rw [List.drop_zero] at k1
  rw [e2] at k2
  replace k1 : Calls Tryd.prog 44 #[.slice (some ⟨g, o, none⟩) 16 c, .int .i64 0, .int .i64 8] (w.alloc (.cells #[.bool false, .int .u64 0, .int .u64 0] 25)) fun e w' => e = .returned (.tuple #[.int .u64 (acc (bs.take 8) : Int), .bool true]) ∧ (w.alloc (.cells #[.bool false, .int .u64 0, .int .u64 0] 25)) = w' := k1
  replace k2 : Calls Tryd.prog 44 #[.slice (some ⟨g, o, none⟩) 16 c, .int .i64 8, .int .i64 8] (w.alloc (.cells #[.bool false, .int .u64 0, .int .u64 0] 25)) fun e w' => e = .returned (.tuple #[.int .u64 (acc (bs.drop 8) : Int), .bool true]) ∧ (w.alloc (.cells #[.bool false, .int .u64 0, .int .u64 0] 25)) = w' := k2
  clear hB hlt h4 e2 hg
  go_enter Tryd.func25, Tryd.ntmps25
  go_wp2_with (first
    | (go_at_call 44; first
      | ((with_reducible refine k1.mono ?_); rintro e w' ⟨rfl, rfl⟩)
      | ((with_reducible refine k2.mono ?_); rintro e w' ⟨rfl, rfl⟩))
    | (refine wpList_store_row rfl 25 _ _ rfl w.heap.size _ rfl rfl _ _ (Blk.new w 25 #[.bool false, .int .u64 0, .int .u64 0]) rfl rfl (by simp [Value.oneCell']) ?_))
  refine ret_cell2 rfl rfl ((Blk.new w 25 #[.bool false, .int .u64 0, .int .u64 0]).row _) Tryd.underlying25 rfl ⟨rfl, Fr.setRow ((Fr.refl N0 w).alloc _) (.inr (Nat.le_refl _)) _⟩
set_option maxHeartbeats 3200000 in
set_option maxRecDepth 100000 in
theorem same0 (A B : Option Addr) (c d : Nat) : Calls Tryd.prog 14 #[.slice A 0 c, .slice B 0 d] w fun e w' => e = .returned (.bool true) ∧ Fr N0 w w' := by
  go_enter Tryd.func14, Tryd.ntmps14
  go_wp2_with fail
  go_loopw [5] (fun i wr => i = .int .i64 0 ∧ Fr N0 w wr) (fun _ _ => 0)
  case atStart => exact ⟨rfl, Fr.refl _ _⟩
  case round =>
    obtain ⟨rfl, hF⟩ := hrel
    go_wp2_with fail
    go_ret
    exact ⟨rfl, hF⟩
set_option maxHeartbeats 3200000 in
set_option maxRecDepth 100000 in
theorem samen (g o n c g' o' d : Nat) (bs : List Nat) (hn : bs.length = n) (hx : n ≤ 140737488355328) (hB : ∀ (i x : Nat), bs[i]? = some x → w.cell? ⟨g, o + i, none⟩ = some (.int .u8 (x : Int))) (hB' : ∀ (i x : Nat), bs[i]? = some x → w.cell? ⟨g', o' + i, none⟩ = some (.int .u8 (x : Int))) :
    Calls Tryd.prog 14 #[.slice (some ⟨g, o, none⟩) n c, .slice (some ⟨g', o', none⟩) n d] w fun e w' => e = .returned (.bool true) ∧ Fr N0 w w' := by
  have HB := Lib.hid hB
  have HB' := Lib.hid hB'
  have HN := Lib.hid hn
  clear hB hB' hn
  go_enter Tryd.func14, Tryd.ntmps14
  go_wp2_with fail
  go_loopw [5] (fun i wr => ∃ j : Nat, j ≤ n ∧ i = .int .i64 (j : Int) ∧ Fr N0 w wr) (fun i _ => n + 1 - (RowKit.intOf i).toNat)
  case atStart => exact ⟨0, by omega, rfl, Fr.refl _ _⟩
  case round =>
    obtain ⟨j, hj, rfl, hF⟩ := hrel
    have G := Lib.hid hF
    clear hF
    by_cases hjn : j < n
    · have hjI : (j : Int) < n := by omega
      obtain ⟨u, hu⟩ : ∃ u, bs[j]? = some u := ⟨_, List.getElem?_eq_getElem (by rw [HN.out]; exact hjn)⟩
      have x0 := (G.out.cell (World.block_lt_of_cell? _ _ (HB.out j u hu)) id).trans (HB.out j u hu)
      have x1 := (G.out.cell (World.block_lt_of_cell? _ _ (HB'.out j u hu)) id).trans (HB'.out j u hu)
      clear hu
      go_wp2_with fail
      go_region
      all_goals go_wp2_with fail
      all_goals exact ⟨⟨j + 1, by omega, by go_num, G.out.drew⟩, by simp [RowKit.intOf]; omega⟩
    · obtain rfl : j = n := by omega
      go_wp2_with fail
      go_ret
      exact ⟨rfl, G.out⟩
end
end Go.Proofs.YtejddfgmfdpnfaaDoor
namespace Go.Proofs.YtejddfgmfdpnfaaDoor
open Go.Proofs Go.Shelf Go.RowKit
theorem own_bytes {w : World} {A : Option Addr} {n c : Nat} {bs : List Nat} (h : Own w 5 1 A n c (bs.map u8v)) (hn : 0 < n) : ∃ g, A = some ⟨g, 0, none⟩ ∧ ∀ (i x : Nat), bs[i]? = some x → w.cell? ⟨g, i, none⟩ = some (.int .u8 (x : Int)) := by
  rcases h.2 with ⟨_, h0, _⟩ | ⟨g, cur, e, hg, _, _, _, ht⟩
  · omega
  · refine ⟨g, e, fun i x hi => ?_⟩
    have hb : Blk w g 5 cur := hg
    have h1 : (cur.toList.take (n * 1))[i]? = some (u8v x) := by rw [ht, List.getElem?_map, hi]; rfl
    rw [List.getElem?_take] at h1
    split at h1
    · rw [Array.getElem?_toList] at h1
      exact (hb.cell i).trans h1
    · cases h1
theorem cls_hi (h l : Nat) (hh : h < 18446744073709551616) : clsA ⟨true, h, l⟩ = if h = 0 ∧ l = 0 then 0 else if h = 0 ∧ l = 1 then 1 else if byteA ⟨true, h, l⟩ 0 = 254 ∧ byteA ⟨true, h, l⟩ 1 / 64 = 2 then 2 else if byteA ⟨true, h, l⟩ 0 = 255 then 3 else 5 := by
  unfold clsA byteA validA
  simp
  repeat' split
  all_goals first | rfl | omega
theorem cls_lo (l : Nat) (hl : l < 4294967296) : clsA ⟨false, 0, l⟩ = if l = 0 then 0 else if byteA ⟨false, 0, l⟩ 0 = 127 then 1 else if byteA ⟨false, 0, l⟩ 0 = 169 ∧ byteA ⟨false, 0, l⟩ 1 = 254 then 2 else if l = 4294967295 then 4 else if byteA ⟨false, 0, l⟩ 0 / 16 = 14 then 3 else 5 := by
  unfold clsA byteA validA
  simp [hl]
  repeat' split
  all_goals first | rfl | omega
section
variable {w : World}
set_option maxHeartbeats 3200000 in
set_option maxRecDepth 100000 in
theorem rcls_ (a : Ad) (ho : a.ok) : Calls Tryd.prog 21 #[adV a] w fun e w' => e = .returned (.int .i64 (clsA a)) ∧ Fr N0 w w' := by
  obtain ⟨s, h, l⟩ := a
  have hby := fun (w : World) => rbyt (w := w) ⟨s, h, l⟩ ho
  obtain ⟨ho1, ho2⟩ := ho
  simp only at ho1 ho2
  have c29 : ∀ (w : World) {b : Bool}, validA ⟨s, h, l⟩ = b → Calls Tryd.prog 19 #[.agg #[.bool s, .int .u64 (h : Int), .int .u64 (l : Int)]] w fun e w' => e = .returned (.bool b) ∧ Fr N0 w w' := fun w b hb => hb ▸ rval (w := w) ⟨s, h, l⟩
  cases hv : validA ⟨s, h, l⟩ with
  | false =>
    have k29 := fun w => c29 w hv
    have hf : clsA ⟨s, h, l⟩ = -1 := by unfold clsA; rw [if_pos hv]
    rw [hf]
    clear c29 hv hf hby
    go_enter Tryd.func21, Tryd.ntmps21
    unfold adV
    go_wp2_with fail
    have HA1 := Lib.hid (Blk.new w 25 #[Value.bool s, Value.int .u64 (h : Int), Value.int .u64 (l : Int)])
    have HF1 := Lib.hid (Fr.alloc (Fr.refl N0 w) (.cells #[Value.bool s, Value.int .u64 (h : Int), Value.int .u64 (l : Int)] 25))
    generalize w.alloc _ = w1 at *
    obtain ⟨g1, hg1⟩ : ∃ g1, g1 = w.heap.size := ⟨_, rfl⟩
    rw [← hg1] at HA1 ⊢
    have HG1 : Hid (w.heap.size ≤ g1) := Lib.hid (by omega)
    clear hg1
    have HZ1 : Hid (∀ W, Fr N0 w1 W → Blk W g1 25 #[Value.bool s, Value.int .u64 (h : Int), Value.int .u64 (l : Int)]) := Lib.hid fun W hf => HA1.out.fr hf id
    have F := Lib.hid (Fr.refl N0 w1)
    obtain ⟨z1_0, z1_1, z1_2⟩ := (HZ1.out _ F.out).c3
    go_wp2_with (first
      | (go_at_call 19; refine (k29 _).mono ?_; rintro e w2 ⟨rfl, hf⟩; have F := Lib.hid (F.out.trans hf); obtain ⟨z1_0, z1_1, z1_2⟩ := (HZ1.out _ F.out).c3))
    go_ret
    exact ⟨rfl, HF1.out.trans F.out⟩
  | true =>
    have k29 := fun w => c29 w hv
    rw [if_pos hv] at hby
    unfold adV at hby
    have x256 := byteA_lt ⟨s, h, l⟩ 0
    have y256 := byteA_lt ⟨s, h, l⟩ 1
    have hx : (bytesA ⟨s, h, l⟩)[0]? = some (byteA ⟨s, h, l⟩ 0) := bytesA_at (by split <;> omega)
    have hy : (bytesA ⟨s, h, l⟩)[1]? = some (byteA ⟨s, h, l⟩ 1) := bytesA_at (by split <;> omega)
    have hlen := bytesA_len ⟨s, h, l⟩
    have hcls : clsA ⟨s, h, l⟩ = if s = true then (if h = 0 ∧ l = 0 then 0 else if h = 0 ∧ l = 1 then 1 else if byteA ⟨s, h, l⟩ 0 = 254 ∧ byteA ⟨s, h, l⟩ 1 / 64 = 2 then 2 else if byteA ⟨s, h, l⟩ 0 = 255 then 3 else 5) else if l = 0 then 0 else if byteA ⟨s, h, l⟩ 0 = 127 then 1 else if byteA ⟨s, h, l⟩ 0 = 169 ∧ byteA ⟨s, h, l⟩ 1 = 254 then 2 else if l = 4294967295 then 4 else if byteA ⟨s, h, l⟩ 0 / 16 = 14 then 3 else 5 := by
      cases s with
      | true => rw [cls_hi h l ho1]; rfl
      | false =>
        simp [validA] at hv
        obtain ⟨rfl, hv⟩ := hv
        rw [cls_lo l hv]
        rfl
    generalize bytesA ⟨s, h, l⟩ = bs at *
    generalize byteA ⟨s, h, l⟩ 0 = x at *
    generalize byteA ⟨s, h, l⟩ 1 = y at *
    generalize clsA ⟨s, h, l⟩ = r at *
    have HX := Lib.hid hx
    have HY := Lib.hid hy
    have HL := Lib.hid hlen
    have HC := Lib.hid hcls
    clear c29 hv hx hy hlen hcls
    go_enter Tryd.func21, Tryd.ntmps21
    unfold adV
    go_wp2_with fail
    have HA1 := Lib.hid (Blk.new w 25 #[Value.bool s, Value.int .u64 (h : Int), Value.int .u64 (l : Int)])
    have HF1 := Lib.hid (Fr.alloc (Fr.refl N0 w) (.cells #[Value.bool s, Value.int .u64 (h : Int), Value.int .u64 (l : Int)] 25))
    generalize w.alloc _ = w1 at *
    obtain ⟨g1, hg1⟩ : ∃ g1, g1 = w.heap.size := ⟨_, rfl⟩
    rw [← hg1] at HA1 ⊢
    have HG1 : Hid (w.heap.size ≤ g1) := Lib.hid (by omega)
    clear hg1
    have HZ1 : Hid (∀ W, Fr N0 w1 W → Blk W g1 25 #[Value.bool s, Value.int .u64 (h : Int), Value.int .u64 (l : Int)]) := Lib.hid fun W hf => HA1.out.fr hf id
    have F := Lib.hid (Fr.refl N0 w1)
    obtain ⟨z1_0, z1_1, z1_2⟩ := (HZ1.out _ F.out).c3
    go_wp2_with (first
      | (go_at_call 19; refine (k29 _).mono ?_; rintro e w2 ⟨rfl, hf⟩; have F := Lib.hid (F.out.trans hf); obtain ⟨z1_0, z1_1, z1_2⟩ := (HZ1.out _ F.out).c3))
    refine (hby _).mono ?_
    rintro e w3 ⟨v, rfl, A, c, rfl, hO, hg, hf⟩
    have HO := Lib.hid hO
    have F := Lib.hid (F.out.trans hf); obtain ⟨z1_0, z1_1, z1_2⟩ := (HZ1.out _ F.out).c3
    have hn : 2 ≤ bs.length := by rw [HL.out]; split <;> omega
    obtain ⟨gb, rfl, hcell⟩ := own_bytes HO.out (by omega)
    have y0 := hcell 0 x HX.out
    have y1 := hcell 1 y HY.out
    generalize bs.length = n at *
    clear hO hg hf hcell
    cases s with
    | true =>
      go_wp2_with fail
      all_goals go_ret
      all_goals refine ⟨ret_eq ?_, HF1.out.trans F.out⟩
      all_goals (clear k29 hby z1_0 z1_1 z1_2 y0 y1; rw [HC.out]; clear HC HX HY HL HO; simp only [beq_iff_eq, beq_eq_false_iff_ne, ne_eq] at *; simp; first | omega | ((repeat' split) <;> omega))
    | false =>
      go_wp2_with fail
      all_goals go_ret
      all_goals refine ⟨ret_eq ?_, HF1.out.trans F.out⟩
      all_goals (clear k29 hby z1_0 z1_1 z1_2 y0 y1; rw [HC.out]; clear HC HX HY HL HO; simp only [beq_iff_eq, beq_eq_false_iff_ne, ne_eq] at *; simp; first | omega | ((repeat' split) <;> omega))
set_option maxHeartbeats 1600000 in
set_option maxRecDepth 100000 in
theorem rsol_ (a : Ad) (ho : a.ok) : Calls Tryd.prog 23 #[adV a] w fun e w' => e = .returned (adV (solA a)) ∧ Fr N0 w w' := by
  obtain ⟨s, h, l⟩ := a
  have hl := ho.2
  simp only at hl
  cases s with
  | false =>
    go_enter Tryd.func23, Tryd.ntmps23
    unfold adV
    go_wp2_with fail
    exact ret_cell rfl rfl (Blk.alloc2 _ _ _ _) Tryd.underlying25 rfl ⟨rfl, ((Fr.refl _ _).alloc _).alloc _⟩
  | true =>
    go_enter Tryd.func23, Tryd.ntmps23
    unfold adV
    go_wp2_with fail
    exact ret_cell rfl rfl (Blk.alloc2 _ _ _ _) Tryd.underlying25 rfl ⟨rfl, ((Fr.refl _ _).alloc _).alloc _⟩
end
end Go.Proofs.YtejddfgmfdpnfaaDoor
