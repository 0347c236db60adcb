/- strconv.FormatUint at base 16, for numbers below 65536. -/
import Derived.Test.YtndjijadalkidaaDoorFu
import Derived.Test.YtndjijadalkidaaDoorOwn
namespace Go.Proofs.YtndjijadalkidaaDoor
open Go.Proofs Go.Shelf Go.RowKit Go.Lib Go.Sort
/-- The library's table of de Bruijn's numbers: the one cell of it that base 16 asks for. -/
def D4 (w : World) : Prop := w.cell? ⟨5, 15, none⟩ = some (.int .u8 4)
theorem D4.fr {w W : World} (h : D4 w) (hF : Fr N0 w W) : D4 W := by
  unfold D4 at *
  rw [hF.cell (World.block_lt_of_cell? _ _ h) id]
  exact h
def dg36 : ByteArray := ⟨#[48, 49, 50, 51, 52, 53, 54, 55, 56, 57, 97, 98, 99, 100, 101, 102, 103, 104, 105, 106, 107, 108, 109, 110, 111, 112, 113, 114, 115, 116, 117, 118, 119, 120, 121, 122]⟩
/-- A digit of base 16. -/
def hd (n : Nat) : UInt8 := dg36.data.toList.getD n 0
/-- How many digits of base 16. -/
def nh (u : Nat) : Nat := if u < 16 then 1 else if u < 256 then 2 else if u < 4096 then 3 else 4
/-- The digits of base 16. -/
def hxT (u : Nat) : List UInt8 := (List.range (nh u)).map fun k => hd (u / 16 ^ (nh u - 1 - k) % 16)
/-- The 65 bytes once j digits are written. -/
def ax (u j : Nat) : List Value := (List.range 65).map fun k => Value.int .u8 (if 65 ≤ k + j then ((hd (u / 16 ^ (64 - k) % 16)).toNat : Int) else 0)
theorem ax_len (u j : Nat) : (ax u j).length = 65 := by simp [ax]
theorem ax_at {u j k : Nat} (hk : k < 65) : (ax u j)[k]? = some (Value.int .u8 (if 65 ≤ k + j then ((hd (u / 16 ^ (64 - k) % 16)).toNat : Int) else 0)) := by
  unfold ax
  rw [List.getElem?_map, List.getElem?_range hk]
  rfl
theorem ax_set {u j : Nat} (hj : j < 65) : (ax u j).set (64 - j) (Value.int .u8 ((hd (u / 16 ^ j % 16)).toNat : Int)) = ax u (j + 1) := by
  apply List.ext_getElem?
  intro k
  by_cases hk : k < 65
  · rw [List.getElem?_set, ax_at hk, ax_len]
    by_cases e : 64 - j = k
    · rw [if_pos e, if_pos (by omega), ax_at hk, if_pos (by omega), show 64 - k = j by omega]
    · rw [if_neg e, ax_at hk]
      by_cases h2 : 65 ≤ k + j
      · rw [if_pos h2, if_pos (by omega)]
      · rw [if_neg h2, if_neg (by omega)]
  · rw [List.getElem?_eq_none (by simp [ax]; omega), List.getElem?_eq_none (by simp [ax]; omega)]
theorem ax_zero (u : Nat) : (ax u 0).toArray = Array.replicate 65 (Value.int .u8 0) := by
  apply Array.ext'
  simp only [Array.toList_replicate]
  apply List.ext_getElem?
  intro k
  by_cases hk : k < 65
  · rw [ax_at hk, if_neg (by omega), List.getElem?_replicate, if_pos hk]
  · rw [List.getElem?_eq_none (by simp [ax]; omega), List.getElem?_eq_none (by simp; omega)]
theorem nh_le (u : Nat) : 1 ≤ nh u ∧ nh u ≤ 4 := by unfold nh; split <;> (try split) <;> (try split) <;> omega
/-- Rounds of the loop. -/
theorem hx_more {u j : Nat} (hu : u < 65536) : (16 ≤ u / 16 ^ j) = (j + 1 < nh u) := by
  have h2 : j ≥ 4 → u / 16 ^ j = 0 := fun h => Nat.div_eq_of_lt (Nat.lt_of_lt_of_le (show u < 16 ^ 4 by omega) (Nat.pow_le_pow_right (by omega) h))
  unfold nh
  rcases j with _ | _ | _ | _ | j
  · simp only [Nat.pow_zero, Nat.div_one, eq_iff_iff]; split <;> (try split) <;> (try split) <;> omega
  · simp only [eq_iff_iff, Nat.zero_add, Nat.pow_one]; split <;> (try split) <;> (try split) <;> omega
  · simp only [eq_iff_iff]; split <;> (try split) <;> (try split) <;> omega
  · simp only [eq_iff_iff]; split <;> (try split) <;> (try split) <;> omega
  · rw [h2 (by omega)]; simp only [eq_iff_iff]; split <;> (try split) <;> (try split) <;> omega
theorem and15 {x : Nat} (hx : x < 18446744073709551616) : bits .and .u64 (x : Int) 15 = ((x % 16 : Nat) : Int) := by
  show IntKind.u64.wrap ((BitVec.ofInt 64 (x : Int) &&& BitVec.ofInt 64 15).toNat : Int) = _
  have h2 : (BitVec.ofInt 64 (15 : Int)).toNat = 2 ^ 4 - 1 := by decide
  rw [BitVec.toNat_and, h2, Nat.and_two_pow_sub_one_eq_mod, BitVec.ofInt_natCast, BitVec.toNat_ofNat, Nat.mod_eq_of_lt hx, IntKind.wrap_u64]
  have : x % 2 ^ 4 < 16 := Nat.mod_lt _ (by omega)
  have e : x % 2 ^ 4 = x % 16 := rfl
  omega
theorem hd_at (k : Nat) (h : k < dg36.size) : dg36[k]'h = hd k := by
  unfold hd
  have h2 : k < dg36.data.toList.length := h
  rw [List.getD_eq_getElem?_getD, List.getElem?_eq_getElem h2]
  rfl
theorem hxT_len (u : Nat) : (hxT u).length = nh u := by simp [hxT]
theorem ax_hxT {u i : Nat} (h : i < (hxT u).length) : (ax u (nh u))[65 - nh u + i]? = some (.int .u8 (((hxT u)[i]'h).toNat : Int)) := by
  rw [hxT_len] at h
  have hn := nh_le u
  rw [ax_at (by omega), if_pos (by omega)]
  have e : 64 - (65 - nh u + i) = nh u - 1 - i := by omega
  rw [e]
  simp [hxT]
section
variable {w : World}
theorem tz16 (hd : D4 w) : Calls Tryd.prog 92 #[.int .u64 16] w fun e w' => e = .returned (.int .i64 4) ∧ w' = w := by
  have k : Calls Tryd.prog 103 #[.int .u64 16] w fun e w' => e = .returned (.int .i64 4) ∧ w' = w := by
    have e15 : (IntKind.u64.wrap (bits .and .u64 16 (IntKind.u64.wrap (-16)) * 285870213051353865) / 288230376151711744).toNat = 15 := by decide
    have hd2 : w.cell? ⟨5, (IntKind.u64.wrap (bits .and .u64 16 (IntKind.u64.wrap (-16)) * 285870213051353865) / 288230376151711744).toNat, none⟩ = some (.int .u8 4) := by rw [e15]; exact hd
    clear hd e15
    go_enter Tryd.func103, Tryd.ntmps103
    go_wp2_with fail
    go_ret
    first | exact ⟨rfl, rfl⟩ | done
  go_enter Tryd.func92, Tryd.ntmps92
  go_wp2_with (go_at_call 103; refine k.mono ?_; rintro e w' ⟨rfl, rfl⟩)
  go_ret
  first | exact ⟨rfl, rfl⟩ | done
theorem pow2_16 : Calls Tryd.prog 91 #[.int .i64 16] w fun e w' => e = .returned (.bool true) ∧ w' = w := by
  go_enter Tryd.func91, Tryd.ntmps91
  go_wp2_with fail
  go_ret
  first | exact ⟨rfl, rfl⟩ | done
set_option maxHeartbeats 3200000 in
set_option maxRecDepth 100000 in
theorem fbits (u : Nat) (hu : u < 65536) (hd : D4 w) : Calls Tryd.prog 74 #[.slice none 0 0, .int .u64 (u : Int), .int .i64 16, .bool false, .bool false] w fun e w' => e = .returned (.tuple #[.slice none 0 0, .string ⟨(hxT u).toArray⟩]) ∧ Fr N0 w w' := by
  have HD := Lib.hid hd
  have HU := Lib.hid hu
  clear hd hu
  have hz0 : Tryd.zeroCells115 = (ax u 0).toArray := by rw [ax_zero]; kernel_rfl
  have kt := tz16 (HD.out.fr (Fr.alloc (Fr.refl N0 w) (.cells Tryd.zeroCells115 115)))
  have HFa := Lib.hid (Fr.alloc (Fr.refl N0 w) (.cells Tryd.zeroCells115 115))
  have HB := Lib.hid (Blk.new w 115 Tryd.zeroCells115)
  have HB2 : Hid (Blk (w.alloc (.cells Tryd.zeroCells115 115)) w.heap.size 115 (ax u 0).toArray) := Lib.hid (by rw [← hz0]; exact HB.out)
  clear hz0 HB HD
  go_enter Tryd.func74, Tryd.ntmps74
  go_wp2_with (first
    | (go_at_call 91; refine pow2_16.mono ?_; rintro e w2 ⟨rfl, rfl⟩)
    | (go_at_call 92; refine kt.mono ?_; rintro e w2 ⟨rfl, rfl⟩))
  clear kt
  generalize w.alloc _ = w1 at *
  obtain ⟨g, hg⟩ : ∃ g, g = w.heap.size := ⟨_, rfl⟩
  rw [← hg] at HB2 ⊢
  have HG := Lib.hid (Nat.le_of_eq hg.symm)
  clear hg
  go_loopw [1, 13] (fun x i wr => ∃ j : Nat, j < nh u ∧ i = .int .i64 (65 - (j : Int)) ∧ x = .int .u64 ((u / 16 ^ j : Nat) : Int) ∧ Blk wr g 115 (ax u j).toArray ∧ Fr (fun i => i = g) w1 wr) (fun _ i _ => (RowKit.intOf i).toNat)
  case atStart => exact ⟨0, by have := nh_le u; omega, rfl, by simp, HB2.out, Fr.refl _ _⟩
  case round =>
    obtain ⟨j, hj, rfl, rfl, hb, hF⟩ := hrel
    have B := Lib.hid hb
    have G := Lib.hid hF
    have GW := Lib.hid (HFa.out.step hF fun i hi => .inr (hi ▸ HG.out))
    have hn := nh_le u
    have hm := hx_more (u := u) (j := j) HU.out
    have hx0 : u / 16 ^ j < 65536 := Nat.lt_of_le_of_lt (Nat.div_le_self _ _) HU.out
    have hnx : u / 16 ^ j / 16 = u / 16 ^ (j + 1) := by rw [Nat.pow_succ, Nat.div_div_eq_div_mul]
    have HNX := Lib.hid hnx
    obtain ⟨x, hx⟩ : ∃ x, x = u / 16 ^ j := ⟨_, rfl⟩
    rw [← hx] at hm hx0 HNX ⊢
    have HX := Lib.hid hx
    have HA := Lib.hid (and15 (x := x) (by omega))
    have fz := B.out.frozen (65 - j - 1)
    have fz2 := B.out.frozen (64 - j)
    have hj65 : j < 5 := by omega
    have y := B.out.cell (65 - j - 1)
    rw [List.getElem?_toArray, ax_at (by omega), if_neg (by omega)] at y
    have hsl : ∀ W, (Instr.sliceAt 115 (.pointer (some ⟨g, 0, none⟩)) (some (.int .i64 (65 - (j : Int) - 1))) none none).run Tryd.prog W = .ok (.slice (some ⟨g, 64 - j, none⟩) (j + 1) (j + 1)) W := fun W => by
      have hal : Tryd.prog.arrayLen 115 = 65 := by simp [Program.arrayLen, Tryd.underlying115]
      rw [run_sliceAt_array_l W 115 ⟨g, 0, none⟩ (by simp [Program.arrayLen, Program.elem, Tryd.underlying115]) .i64 (65 - (j : Int) - 1) (by omega) (by rw [hal]; omega)]
      have e : (65 - (j : Int) - 1).toNat = 64 - j := by omega
      rw [e, hal]
      have e2 : 65 - (64 - j) = j + 1 := by omega
      simp only [slicedAt, e2]
      go_simp
      omega
    clear hb hF hnx hx
    by_cases hmore : j + 1 < nh u
    · have h16 : (16 : Int) ≤ (x : Int) := by have : 16 ≤ x := by rw [hm]; exact hmore
                                              omega
      have hm16 : x % 16 < 16 := Nat.mod_lt _ (by omega)
      clear hm
      have HBv : ∀ v : Value, v = .int .u8 ((hd (u / 16 ^ j % 16)).toNat : Int) → Blk (wr.setCell ⟨g, 65 - j - 1, none⟩ v) g 115 (ax u (j + 1)).toArray := by
        rintro _ rfl
        have := B.out.set_ (65 - j - 1) (.int .u8 ((hd (u / 16 ^ j % 16)).toNat : Int))
        rw [List.setIfInBounds_toArray, show 65 - j - 1 = 64 - j by omega, ax_set (by omega)] at this
        rw [show 65 - j - 1 = 64 - j by omega]
        exact this
      have HBV := Lib.hid HBv
      have hb0 : 0 ≤ bits .and .u64 (x : Int) 15 := by rw [HA.out]; omega
      have hb1 : bits .and .u64 (x : Int) 15 < 36 := by rw [HA.out]; omega
      clear HBv
      go_wp2_with fail
      refine ⟨⟨j + 1, hmore, by go_num, ?_, HBV.out _ ?_, G.out.setCell (.inl rfl) _⟩, ?_⟩
      · rw [← HNX.out]; simp
      · rw [← HX.out]
        refine congrArg (fun n : UInt8 => Value.int .u8 (n.toNat : Int)) ((hd_at _ _).trans (congrArg hd ?_))
        rw [HA.out]; exact Int.toNat_natCast _
      · simp [RowKit.intOf]; omega
    · have h16 : ¬ (16 : Int) ≤ (x : Int) := by have : ¬ 16 ≤ x := by rw [hm]; exact hmore
                                                omega
      clear hm
      have hx36 : x < (⟨#[48, 49, 50, 51, 52, 53, 54, 55, 56, 57, 97, 98, 99, 100, 101, 102, 103, 104, 105, 106, 107, 108, 109, 110, 111, 112, 113, 114, 115, 116, 117, 118, 119, 120, 121, 122]⟩ : ByteArray).size := by
        have h36 : dg36.size = 36 := by decide
        show x < dg36.size
        omega
      have hlast : nh u = j + 1 := by omega
      have HW := Lib.hid (show Blk (wr.setCell ⟨g, 65 - j - 1, none⟩ (.int .u8 (((⟨#[48, 49, 50, 51, 52, 53, 54, 55, 56, 57, 97, 98, 99, 100, 101, 102, 103, 104, 105, 106, 107, 108, 109, 110, 111, 112, 113, 114, 115, 116, 117, 118, 119, 120, 121, 122]⟩ : ByteArray)[x]'hx36).toNat : Int))) g 115 (ax u (nh u)).toArray by
        have e : ((⟨#[48, 49, 50, 51, 52, 53, 54, 55, 56, 57, 97, 98, 99, 100, 101, 102, 103, 104, 105, 106, 107, 108, 109, 110, 111, 112, 113, 114, 115, 116, 117, 118, 119, 120, 121, 122]⟩ : ByteArray)[x]'hx36) = hd (u / 16 ^ j % 16) := (hd_at x hx36).trans (by rw [← HX.out, Nat.mod_eq_of_lt (by omega)])
        rw [e]
        have := B.out.set_ (65 - j - 1) (.int .u8 ((hd (u / 16 ^ j % 16)).toNat : Int))
        rw [List.setIfInBounds_toArray, show 65 - j - 1 = 64 - j by omega, ax_set (by omega)] at this
        rw [show 65 - j - 1 = 64 - j by omega, hlast]
        exact this)
      have hcv : (convert 48 9 (.slice (some ⟨g, 64 - j, none⟩) (j + 1) (j + 1))).run Tryd.prog (wr.setCell ⟨g, 65 - j - 1, none⟩ (.int .u8 (((⟨#[48, 49, 50, 51, 52, 53, 54, 55, 56, 57, 97, 98, 99, 100, 101, 102, 103, 104, 105, 106, 107, 108, 109, 110, 111, 112, 113, 114, 115, 116, 117, 118, 119, 120, 121, 122]⟩ : ByteArray)[x]'hx36).toNat : Int))) = .ok (.string ⟨(hxT u).toArray⟩) (wr.setCell ⟨g, 65 - j - 1, none⟩ (.int .u8 (((⟨#[48, 49, 50, 51, 52, 53, 54, 55, 56, 57, 97, 98, 99, 100, 101, 102, 103, 104, 105, 106, 107, 108, 109, 110, 111, 112, 113, 114, 115, 116, 117, 118, 119, 120, 121, 122]⟩ : ByteArray)[x]'hx36).toNat : Int))) := by
        have h := run_convert_bytes_back (P := Tryd.prog) (wr.setCell ⟨g, 65 - j - 1, none⟩ (.int .u8 (((⟨#[48, 49, 50, 51, 52, 53, 54, 55, 56, 57, 97, 98, 99, 100, 101, 102, 103, 104, 105, 106, 107, 108, 109, 110, 111, 112, 113, 114, 115, 116, 117, 118, 119, 120, 121, 122]⟩ : ByteArray)[x]'hx36).toNat : Int))) 48 9 5 ⟨g, 64 - j, none⟩ (j + 1) (hxT u) Tryd.underlying48 Tryd.underlying5 Tryd.underlying9 (fun i hi => by
          have := HW.out.cell (64 - j + i)
          rw [List.getElem?_toArray, show 64 - j + i = 65 - nh u + i by omega, ax_hxT hi] at this
          rw [Lib.add_plain, show 64 - j + i = 65 - nh u + i by omega]
          exact this)
        rw [hxT_len, hlast] at h
        exact h
      go_wp2_with fail
      go_ret2
      exact ⟨rfl, GW.out.setCell (.inr HG.out) _⟩
theorem fu16 (u : Nat) (hu : u < 65536) (hd : D4 w) : Calls Tryd.prog 49 #[.int .u64 (u : Int), .int .i64 16] w fun e w' => e = .returned (.string ⟨(hxT u).toArray⟩) ∧ Fr N0 w w' := by
  have k0 := fbits (w := w) u hu hd
  have k : Calls Tryd.prog 59 #[.int .u64 (u : Int), .int .i64 16] w fun e w' => e = .returned (.string ⟨(hxT u).toArray⟩) ∧ Fr N0 w w' := by
    go_enter Tryd.func59, Tryd.ntmps59
    go_wp2_with (go_at_call 74; refine k0.mono ?_; rintro e w' ⟨rfl, hf⟩)
    go_ret
    exact ⟨rfl, hf⟩
  go_enter Tryd.func49, Tryd.ntmps49
  go_wp2_with (go_at_call 59; refine k.mono ?_; rintro e w' ⟨rfl, hf⟩)
  go_ret
  exact ⟨rfl, hf⟩
end
end Go.Proofs.YtndjijadalkidaaDoor
