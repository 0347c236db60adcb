/- addr.number and prefix.many of any text. -/
import Derived.Test.YtcameghlkplgfaaGreatDoorHx
import Derived.Shelf.Pu.ToError
namespace Go.Proofs.YtcameghlkplgfaaGreatDoor
open Go.Proofs Go.Shelf Go.RowKit Go.Lib
shelf_lay LaysPu.n17 Mp 17 at Tryz as Tryz.toErrL
/-- The library's own variable holds an error. -/
def Sy (w : World) : Prop := ∃ ev, w.cell? ⟨1, 0, none⟩ = some ev ∧ (ev = .nilIface ∨ ∃ te pe, ev = .iface te pe)
theorem Sy.fr {w W : World} (h : Sy w) (hF : Fr N0 w W) : Sy W := by
  obtain ⟨ev, h1, h2⟩ := h
  exact ⟨ev, (hF.cell (p := ⟨1, 0, none⟩) (World.block_lt_of_cell? _ _ h1) id).trans h1, h2⟩
def decG (acc : Nat) : List UInt8 → Option Nat
  | [] => some acc
  | c :: r => if 48 ≤ c.toNat ∧ c.toNat ≤ 57 then decG (acc * 10 + (c.toNat - 48)) r else none
/-- What a text without a digit ends in. -/
abbrev synE : Lib.NumEnd Nat := Lib.parseUintB 64 []
theorem dec_of (M : Nat) : ∀ (l : List UInt8) (acc : Nat), (acc + 1) * 10 ^ l.length ≤ M + 1 → M + 1 ≤ 18446744073709551616 → Lib.parseUintM M acc l = match decG acc l with | some v => .ok v | none => synE
  | [], acc, _, _ => rfl
  | c :: r, acc, h, hM => by
    have hp : 0 < 10 ^ r.length := Nat.pow_pos (by omega)
    rw [List.length_cons, Nat.pow_succ] at h
    have h1 : (acc + 1) * 10 ≤ M + 1 := by
      have : (acc + 1) * 10 * 1 ≤ (acc + 1) * 10 * 10 ^ r.length := Nat.mul_le_mul_left _ hp
      have e : (acc + 1) * (10 ^ r.length * 10) = (acc + 1) * 10 * 10 ^ r.length := by rw [Nat.mul_comm (10 ^ r.length), Nat.mul_assoc]
      omega
    unfold Lib.parseUintM decG
    by_cases hd : 48 ≤ c.toNat ∧ c.toNat ≤ 57
    · rw [if_pos hd, if_neg (by omega), if_neg (by omega), if_pos hd]
      refine dec_of M r _ ?_ hM
      have h2 : acc * 10 + (c.toNat - 48) + 1 ≤ (acc + 1) * 10 := by omega
      have h3 := Nat.mul_le_mul_right (10 ^ r.length) h2
      have e : (acc + 1) * (10 ^ r.length * 10) = (acc + 1) * 10 * 10 ^ r.length := by rw [Nat.mul_comm (10 ^ r.length), Nat.mul_assoc]
      omega
    · rw [if_neg hd, if_neg hd]
      first | done | rfl
theorem decG_lt : ∀ (l : List UInt8) (acc v : Nat), decG acc l = some v → v < (acc + 1) * 10 ^ l.length
  | [], acc, v, h => by
    simp only [decG, Option.some.injEq] at h
    simp
    omega
  | c :: r, acc, v, h => by
    unfold decG at h
    split at h
    · rename_i hd
      have h1 := decG_lt r _ v h
      have h2 : acc * 10 + (c.toNat - 48) + 1 ≤ (acc + 1) * 10 := by omega
      have h3 := Nat.mul_le_mul_right (10 ^ r.length) h2
      rw [List.length_cons, Nat.pow_succ]
      have e : (acc + 1) * (10 ^ r.length * 10) = (acc + 1) * 10 * 10 ^ r.length := by rw [Nat.mul_comm (10 ^ r.length), Nat.mul_assoc]
      omega
    · cases h
def num10 (l : List UInt8) : Option Nat := if l.length = 0 ∨ 3 < l.length then none else decG 0 l
def num16 (l : List UInt8) : Option Nat := if l.length = 0 ∨ 4 < l.length then none else hexG 0 l
def numT : Option Nat → Value
  | some v => .tuple #[.int .u64 (v : Int), .bool true]
  | none => .tuple #[.int .u64 0, .bool false]
section
variable {w : World}
theorem bytes_fr (w : World) (s : ByteArray) (w' : World) (h : w' = w ∨ w' = Lib.bytesWorld w 5 s) : Fr N0 w w' := by
  rcases h with rfl | rfl
  · exact Fr.refl _ _
  · exact Fr.freeze (by unfold Lib.bytesCells; repeat first | exact Fr.refl _ _ | refine Fr.drew ?_ | refine Fr.alloc ?_ _) _ _ (Nat.le_refl _)
set_option maxHeartbeats 1600000 in
set_option maxRecDepth 100000 in
theorem pu16 (s : ByteArray) (hne : s.size ≠ 0) (hmax : s.size ≤ 4) (hsy : Sy w) : Calls Tryz.prog 36 #[.string s, .int .i64 16, .int .i64 64] w fun e w' =>
    (match hexG 0 s.data.toList with | some v => e = .returned (.tuple #[.int .u64 (v : Int), .nilIface]) | none => ∃ t N, e = .returned (.tuple #[.int .u64 0, .iface t (.pointer (some ⟨N, 0, none⟩))])) ∧ Fr N0 w w' := by
  have k := ipu16 (w := w) s hne hmax
  cases hg : hexG 0 s.data.toList with
  | some v =>
    rw [hg] at k
    simp only [hexT] at k
    clear hg hne hmax
    go_enter Tryz.func36, Tryz.ntmps36
    go_wp2_with (go_at_call 59; refine k.mono ?_; rintro e w2 ⟨rfl, hf⟩)
    go_wp2_with fail
    go_ret2
    exact ⟨rfl, hf⟩
  | none =>
    rw [hg] at k
    simp only [hexT] at k
    have HM := Lib.hid hmax
    clear hg hne hmax
    go_enter Tryz.func36, Tryz.ntmps36
    go_wp2_with (go_at_call 59; refine k.mono ?_; rintro e w2 ⟨rfl, hf⟩)
    obtain ⟨ev, h1, h2⟩ := hsy.fr hf
    go_wp2_with (go_at_call 60; refine (AnyPu.strconv_toError_syntax Tryz.toErrL ⟨#[80, 97, 114, 115, 101, 85, 105, 110, 116]⟩ s 16 64 ev _ (by have := HM.out; omega) h1 h2).mono ?_; rintro e w3 ⟨N, rfl, h3, h4, h5⟩)
    go_wp2_with fail
    go_ret2
    exact ⟨⟨_, N, rfl⟩, hf.trans (Fr.of_below h5)⟩
theorem pu10 (s : ByteArray) (hne : s.size ≠ 0) (hmax : s.size ≤ 3) (hsy : Sy w) : Calls Tryz.prog 36 #[.string s, .int .i64 10, .int .i64 64] w fun e w' =>
    (match decG 0 s.data.toList with | some v => e = .returned (.tuple #[.int .u64 (v : Int), .nilIface]) | none => ∃ t N, e = .returned (.tuple #[.int .u64 0, .iface t (.pointer (some ⟨N, 0, none⟩))])) ∧ Fr N0 w w' := by
  have hlen : s.data.toList.length = s.size := Lib.size_eq s
  have hnil : s.data.toList ≠ [] := by intro h; rw [h] at hlen; simp at hlen; omega
  have hp10 : 10 ^ s.data.toList.length ≤ 10 ^ 3 := Nat.pow_le_pow_right (by omega) (by omega)
  have h := dec_of (2 ^ 64 - 1) s.data.toList 0 (by omega) (by omega)
  cases hg : decG 0 s.data.toList with
  | some v =>
    rw [hg] at h
    refine (Any.strconv_ParseUint_10_at64_ok Tryz.puL s (by omega) v (by unfold Lib.parseUintB; rw [if_neg hnil]; exact h) w).mono ?_
    rintro e w' ⟨rfl, hw⟩
    exact ⟨rfl, bytes_fr _ _ _ hw⟩
  | none =>
    rw [hg] at h
    obtain ⟨ev, h1, h2⟩ := hsy
    refine (Any.strconv_ParseUint_10_at64_syntax Tryz.puL s (by omega) (by unfold Lib.parseUintB; rw [if_neg hnil]; exact h) ev w h1 h2).mono ?_
    rintro e w' ⟨N, rfl, -, -, hb⟩
    exact ⟨⟨_, N, rfl⟩, Fr.of_below hb⟩
theorem pu10b (s : ByteArray) (hne : s.size ≠ 0) (hmax : s.size ≤ 3) (hsy : Sy w) : Calls Tryz.prog 36 #[.string s, .int .i64 10, .int .i64 16] w fun e w' =>
    (match decG 0 s.data.toList with | some v => e = .returned (.tuple #[.int .u64 (v : Int), .nilIface]) | none => ∃ t N, e = .returned (.tuple #[.int .u64 0, .iface t (.pointer (some ⟨N, 0, none⟩))])) ∧ Fr N0 w w' := by
  have hlen : s.data.toList.length = s.size := Lib.size_eq s
  have hnil : s.data.toList ≠ [] := by intro h; rw [h] at hlen; simp at hlen; omega
  have hp10 : 10 ^ s.data.toList.length ≤ 10 ^ 3 := Nat.pow_le_pow_right (by omega) (by omega)
  have h := dec_of (2 ^ 16 - 1) s.data.toList 0 (by omega) (by omega)
  cases hg : decG 0 s.data.toList with
  | some v =>
    rw [hg] at h
    refine (Any.strconv_ParseUint_10_at16_ok Tryz.puL s (by omega) v (by unfold Lib.parseUintB; rw [if_neg hnil]; exact h) w).mono ?_
    rintro e w' ⟨rfl, hw⟩
    exact ⟨rfl, bytes_fr _ _ _ hw⟩
  | none =>
    rw [hg] at h
    obtain ⟨ev, h1, h2⟩ := hsy
    refine (Any.strconv_ParseUint_10_at16_syntax Tryz.puL s (by omega) (by unfold Lib.parseUintB; rw [if_neg hnil]; exact h) ev w h1 h2).mono ?_
    rintro e w' ⟨N, rfl, -, -, hb⟩
    exact ⟨⟨_, N, rfl⟩, Fr.of_below hb⟩
theorem num10_eq (s : ByteArray) : num10 s.data.toList = if s.size = 0 ∨ 3 < s.size then none else decG 0 s.data.toList := by
  have hlen : s.data.toList.length = s.size := Lib.size_eq s
  unfold num10
  rw [hlen]
theorem num16_eq (s : ByteArray) : num16 s.data.toList = if s.size = 0 ∨ 4 < s.size then none else hexG 0 s.data.toList := by
  have hlen : s.data.toList.length = s.size := Lib.size_eq s
  unfold num16
  rw [hlen]
theorem empty_of {s : ByteArray} (h : s.size = 0) : s = ⟨#[]⟩ := by
  obtain ⟨⟨l⟩⟩ := s
  have : l = [] := List.length_eq_zero_iff.1 h
  subst this
  rfl
theorem nempty_of {s : ByteArray} (h : s.size ≠ 0) : s.toList.isEmpty = false := by
  rw [← decide_eq_emptyBytes]
  exact decide_eq_false (fun e => h (by rw [e]; rfl))
set_option maxHeartbeats 3200000 in
set_option maxRecDepth 100000 in
theorem numb10 (s : ByteArray) (hsy : Sy w) : Calls Tryz.prog 56 #[.string s, .int .i64 10, .int .i64 3] w fun e w' => e = .returned (numT (num10 s.data.toList)) ∧ Fr N0 w w' := by
  rw [num10_eq]
  by_cases h0 : s.size = 0
  · rw [if_pos (.inl h0)]
    obtain rfl := empty_of h0
    go_enter Tryz.func56, Tryz.ntmps56
    go_wp2_with fail
    go_ret2
    exact ⟨rfl, Fr.refl _ _⟩
  · have hemp := nempty_of h0
    by_cases h3 : 3 < s.size
    · rw [if_pos (.inr h3)]
      have hi : (3 : Int) < (s.size : Int) := by omega
      go_enter Tryz.func56, Tryz.ntmps56
      go_wp2_with fail
      go_ret2
      exact ⟨rfl, Fr.refl _ _⟩
    · rw [if_neg (by omega)]
      have k := pu10 (w := w) s h0 (by omega) hsy
      have hd : decide (3 < (s.size : Int)) = false := decide_eq_false (by omega)
      cases hg : decG 0 s.data.toList with
      | some v =>
        rw [hg] at k
        clear hg
        go_enter Tryz.func56, Tryz.ntmps56
        go_wp2_with (go_at_call 36; refine k.mono ?_; rintro e w2 ⟨rfl, hf⟩)
        go_region
        all_goals go_wp2_with fail
        all_goals go_ret2
        all_goals exact ⟨rfl, hf.drew⟩
      | none =>
        rw [hg] at k
        clear hg
        go_enter Tryz.func56, Tryz.ntmps56
        go_wp2_with (go_at_call 36; refine k.mono ?_; rintro e w2 ⟨⟨t, N, rfl⟩, hf⟩)
        go_region
        all_goals go_wp2_with fail
        all_goals go_ret2
        all_goals exact ⟨rfl, hf.drew⟩
set_option maxHeartbeats 3200000 in
set_option maxRecDepth 100000 in
theorem numb16 (s : ByteArray) (hsy : Sy w) : Calls Tryz.prog 56 #[.string s, .int .i64 16, .int .i64 4] w fun e w' => e = .returned (numT (num16 s.data.toList)) ∧ Fr N0 w w' := by
  rw [num16_eq]
  by_cases h0 : s.size = 0
  · rw [if_pos (.inl h0)]
    obtain rfl := empty_of h0
    go_enter Tryz.func56, Tryz.ntmps56
    go_wp2_with fail
    go_ret2
    exact ⟨rfl, Fr.refl _ _⟩
  · have hemp := nempty_of h0
    by_cases h3 : 4 < s.size
    · rw [if_pos (.inr h3)]
      have hi : (4 : Int) < (s.size : Int) := by omega
      go_enter Tryz.func56, Tryz.ntmps56
      go_wp2_with fail
      go_ret2
      exact ⟨rfl, Fr.refl _ _⟩
    · rw [if_neg (by omega)]
      have k := pu16 (w := w) s h0 (by omega) hsy
      have hd : decide (4 < (s.size : Int)) = false := decide_eq_false (by omega)
      cases hg : hexG 0 s.data.toList with
      | some v =>
        rw [hg] at k
        clear hg
        go_enter Tryz.func56, Tryz.ntmps56
        go_wp2_with (go_at_call 36; refine k.mono ?_; rintro e w2 ⟨rfl, hf⟩)
        go_region
        all_goals go_wp2_with fail
        all_goals go_ret2
        all_goals exact ⟨rfl, hf.drew⟩
      | none =>
        rw [hg] at k
        clear hg
        go_enter Tryz.func56, Tryz.ntmps56
        go_wp2_with (go_at_call 36; refine k.mono ?_; rintro e w2 ⟨⟨t, N, rfl⟩, hf⟩)
        go_region
        all_goals go_wp2_with fail
        all_goals go_ret2
        all_goals exact ⟨rfl, hf.drew⟩
/-- How many bits a text says; -1: it is no number of bits. -/
def manyP (l : List UInt8) : Int := if l.length = 0 ∨ 3 < l.length ∨ (l.head? = some 48 ∧ 1 < l.length) then -1 else match decG 0 l with | some v => (v : Int) | none => -1
theorem head_of {s : ByteArray} (h : 0 < s.size) : s.data.toList.head? = some (s[0]'h) := by
  obtain ⟨⟨l⟩⟩ := s
  cases l with
  | nil => simp [ByteArray.size] at h
  | cons a r => rfl
set_option maxHeartbeats 3200000 in
set_option maxRecDepth 100000 in
theorem many_ (s : ByteArray) (hsy : Sy w) : Calls Tryz.prog 20 #[.string s] w fun e w' => e = .returned (.int .i64 (manyP s.data.toList)) ∧ Fr N0 w w' := by
  have hlen : s.data.toList.length = s.size := Lib.size_eq s
  have hM : manyP s.data.toList = if s.size = 0 ∨ 3 < s.size ∨ (s.data.toList.head? = some 48 ∧ 1 < s.size) then -1 else match decG 0 s.data.toList with | some v => (v : Int) | none => -1 := by
    unfold manyP
    rw [hlen]
  rw [hM]
  clear hM hlen
  by_cases h0 : s.size = 0
  · rw [if_pos (.inl h0)]
    obtain rfl := empty_of h0
    go_enter Tryz.func20, Tryz.ntmps20
    go_wp2_with fail
    go_ret
    exact ⟨rfl, Fr.refl _ _⟩
  · have hemp := nempty_of h0
    by_cases h3 : 3 < s.size
    · rw [if_pos (.inr (.inl h3))]
      have hi : (3 : Int) < (s.size : Int) := by omega
      go_enter Tryz.func20, Tryz.ntmps20
      go_wp2_with fail
      go_ret
      exact ⟨rfl, Fr.refl _ _⟩
    · have hp : 0 < s.size := by omega
      have hpI : (0 : Int) < (s.size : Int) := by omega
      have hd : decide (3 < (s.size : Int)) = false := decide_eq_false (by omega)
      have hH := head_of hp
      by_cases hz : (s[0]'hp).toNat = 48 ∧ 1 < s.size
      · have hq : s[0]'hp = 48 := UInt8.toNat_inj.1 hz.1
        rw [if_pos (.inr (.inr ⟨by rw [hH, hq], hz.2⟩))]
        have e1 : (((s[0]'hp).toNat : Int) == 48) = true := by simp [hq]
        have e2 : (1 : Int) < (s.size : Int) := by omega
        clear hH hz hq
        go_enter Tryz.func20, Tryz.ntmps20
        go_wp2_with fail
        go_ret
        exact ⟨rfl, Fr.refl _ _⟩
      · have hcond : ¬ (s.size = 0 ∨ 3 < s.size ∨ (s.data.toList.head? = some 48 ∧ 1 < s.size)) := by
          rintro (h | h | ⟨h, h'⟩)
          · exact h0 h
          · exact h3 h
          · rw [hH] at h
            injection h with h
            exact hz ⟨by rw [h]; rfl, h'⟩
        rw [if_neg hcond]
        have k := pu10b (w := w) s h0 (by omega) hsy
        have hV := Lib.hid fun v (h : decG 0 s.data.toList = some v) => (show v < 65536 by
          have h1 := decG_lt _ _ _ h
          have h2 : 10 ^ s.data.toList.length ≤ 10 ^ 3 := Nat.pow_le_pow_right (by omega) (by have := Lib.size_eq s; omega)
          omega)
        have hcs : (((s[0]'hp).toNat : Int) == 48) = false ∨ ((((s[0]'hp).toNat : Int) == 48) = true ∧ decide (1 < (s.size : Int)) = false) := by
          by_cases e : (s[0]'hp).toNat = 48
          · exact .inr ⟨by simp [e], decide_eq_false (by omega)⟩
          · exact .inl (by simp; omega)
        clear hH hz hcond
        cases hg : decG 0 s.data.toList with
        | some v =>
          have hv := hV.out v hg
          rw [hg] at k
          clear hg hV
          rcases hcs with hcs | ⟨hcs, hcs2⟩
          all_goals
            go_enter Tryz.func20, Tryz.ntmps20
            go_wp2_with (go_at_call 36; refine k.mono ?_; rintro e w2 ⟨rfl, hf⟩)
            go_wp2_with fail
            go_ret
            exact ⟨rfl, hf⟩
        | none =>
          rw [hg] at k
          clear hg hV
          rcases hcs with hcs | ⟨hcs, hcs2⟩
          all_goals
            go_enter Tryz.func20, Tryz.ntmps20
            go_wp2_with (go_at_call 36; refine k.mono ?_; rintro e w2 ⟨⟨t, N, rfl⟩, hf⟩)
            go_wp2_with fail
            go_ret
            exact ⟨rfl, hf⟩
end
end Go.Proofs.YtcameghlkplgfaaGreatDoor
