/- addr.Class and addr.Solicited of any address. -/
import Derived.Test.YtnklbeigikcfkaaGreatDoorLe
import Derived.Shelf.Lay
namespace Go.Proofs.YtnklbeigikcfkaaGreatDoor
open Go.Proofs Go.Shelf Go.RowKit
def clsA (a : Ad) : Int :=
  if validA a = false then -1 else if a.six = true then (if a.hi = 0 ∧ a.lo = 0 then 0 else if a.hi = 0 ∧ a.lo = 1 then 1 else if a.hi / 18014398509481984 = 1018 then 2 else if a.hi / 72057594037927936 = 255 then 3 else 5)
  else if a.lo = 0 then 0 else if a.lo / 16777216 = 127 then 1 else if a.lo / 65536 = 43518 then 2 else if a.lo = 4294967295 then 4 else if a.lo / 268435456 = 14 then 3 else 5
def solA (a : Ad) : Ad := if a.six = true then ⟨true, 18375249429625044992, 8573157376 + a.lo % 16777216⟩ else ⟨false, 0, 0⟩
theorem sol_or (l : Nat) (h : l < 18446744073709551616) : bits .or .u64 8573157376 (bits .and .u64 (l : Int) 16777215) = ((8573157376 + l % 16777216 : Nat) : Int) := by
  have e : bits .and .u64 (l : Int) 16777215 = ((l % 16777216 : Nat) : Int) := by
    show IntKind.u64.wrap ((BitVec.ofInt 64 (l : Int) &&& BitVec.ofInt 64 16777215).toNat : Int) = _
    have h2 : (BitVec.ofInt 64 (16777215 : Int)).toNat = 2 ^ 24 - 1 := by decide
    rw [BitVec.toNat_and, h2, Nat.and_two_pow_sub_one_eq_mod, BitVec.ofInt_natCast, BitVec.toNat_ofNat, Nat.mod_eq_of_lt h, IntKind.wrap_u64]
    have : l % 2 ^ 24 < 16777216 := Nat.mod_lt _ (by omega)
    have e : l % 2 ^ 24 = l % 16777216 := rfl
    omega
  have hm : l % 16777216 < 16777216 := Nat.mod_lt _ (by omega)
  rw [e, show (8573157376 : Int) = ((8573157376 : Nat) : Int) from rfl, bits_or_u64_nat _ _ (by omega) (by omega)]
  congr 1
  have := Nat.two_pow_add_eq_or_of_lt (i := 24) (show l % 16777216 < 2 ^ 24 from hm) 511
  rw [show (2 : Nat) ^ 24 * 511 = 8573157376 by decide] at this
  exact this.symm
section
variable {w : World}
set_option maxHeartbeats 1600000 in
set_option maxRecDepth 100000 in
theorem cls6 (h l : Nat) (_ho : h < 18446744073709551616) : Calls Tryz.prog 101 #[adV ⟨true, h, l⟩] w fun e w' => e = .returned (.int .i64 (clsA ⟨true, h, l⟩)) ∧ Fr N0 w w' := by
  obtain ⟨d1, hd1⟩ : ∃ d, d = decide ((⟨true, h, l⟩ : Ad) = ⟨true, 0, 0⟩) := ⟨_, rfl⟩
  obtain ⟨d2, hd2⟩ : ∃ d, d = decide ((⟨true, h, l⟩ : Ad) = ⟨true, 0, 1⟩) := ⟨_, rfl⟩
  have e1 : ∀ (w : World), (binOp .eql 30 (.agg #[.bool true, .int .u64 (h : Int), .int .u64 (l : Int)]) (.agg #[.bool true, .int .u64 0, .int .u64 0])).run Tryz.prog w = .ok (.bool d1) w := fun w => by rw [hd1]; exact eql_ad ⟨true, h, l⟩ ⟨true, 0, 0⟩ w
  have e2 : ∀ (w : World), (binOp .eql 30 (.agg #[.bool true, .int .u64 (h : Int), .int .u64 (l : Int)]) (.agg #[.bool true, .int .u64 0, .int .u64 1])).run Tryz.prog w = .ok (.bool d2) w := fun w => by rw [hd2]; exact eql_ad ⟨true, h, l⟩ ⟨true, 0, 1⟩ w
  have q1 := fun X Y W => guard_ad .eql X Y ⟨true, h, l⟩ ⟨true, 0, 0⟩ W
  have q2 := fun X Y W => guard_ad .eql X Y ⟨true, h, l⟩ ⟨true, 0, 1⟩ W
  unfold adV at q1 q2
  have hf : clsA ⟨true, h, l⟩ = if d1 = true then 0 else if d2 = true then 1 else if h / 18014398509481984 = 1018 then 2 else if h / 72057594037927936 = 255 then 3 else 5 := by
    rw [hd1, hd2]
    unfold clsA
    simp [validA]
  have HF := Lib.hid hf
  clear hf hd1 hd2
  cases d1 with
  | true =>
    go_enter Tryz.func101, Tryz.ntmps101
    unfold adV
    go_wp2_with fail
    go_ret
    exact ⟨by rw [HF.out]; rfl, (Fr.refl _ _).alloc _⟩
  | false =>
    cases d2 with
    | true =>
      go_enter Tryz.func101, Tryz.ntmps101
      unfold adV
      go_wp2_with fail
      go_ret
      exact ⟨by rw [HF.out]; rfl, (Fr.refl _ _).alloc _⟩
    | false =>
      go_enter Tryz.func101, Tryz.ntmps101
      unfold adV
      go_wp2_with fail
      all_goals go_ret
      all_goals refine ⟨ret_eq ?_, (Fr.refl _ _).alloc _⟩
      all_goals (clear e1 e2 q1 q2; rw [HF.out]; clear HF; simp only [beq_iff_eq, beq_eq_false_iff_ne, ne_eq] at *; simp; first | omega | ((repeat' split) <;> omega))
set_option maxHeartbeats 1600000 in
set_option maxRecDepth 100000 in
theorem cls_ (a : Ad) (ho : a.ok) : Calls Tryz.prog 76 #[adV a] w fun e w' => e = .returned (.int .i64 (clsA a)) ∧ Fr N0 w w' := by
  obtain ⟨s, h, l⟩ := a
  obtain ⟨ho1, ho2⟩ := ho
  simp only at ho1 ho2
  have c29 : ∀ (w : World) {b : Bool}, validA ⟨s, h, l⟩ = b → Calls Tryz.prog 65 #[.agg #[.bool s, .int .u64 (h : Int), .int .u64 (l : Int)]] w fun e w' => e = .returned (.bool b) ∧ Fr N0 w w' := fun w b hb => hb ▸ aval (w := w) ⟨s, h, l⟩
  cases hv : validA ⟨s, h, l⟩ with
  | false =>
    have k29 := fun w => c29 w hv
    have hf : clsA ⟨s, h, l⟩ = -1 := by unfold clsA; rw [if_pos hv]
    rw [hf]
    clear c29 hv hf
    go_enter Tryz.func76, Tryz.ntmps76
    unfold adV
    go_wp2_with fail
    have HA1 := Lib.hid (Blk.new w 30 #[Value.bool s, Value.int .u64 (h : Int), Value.int .u64 (l : Int)])
    have HF1 := Lib.hid (Fr.alloc (Fr.refl N0 w) (.cells #[Value.bool s, Value.int .u64 (h : Int), Value.int .u64 (l : Int)] 30))
    generalize w.alloc _ = w1 at *
    obtain ⟨g1, hg1⟩ : ∃ g1, g1 = w.heap.size := ⟨_, rfl⟩
    rw [← hg1] at HA1 ⊢
    have HG1 : Hid (w.heap.size ≤ g1) := Lib.hid (by omega)
    clear hg1
    have HZ1 : Hid (∀ W, Fr N0 w1 W → Blk W g1 30 #[Value.bool s, Value.int .u64 (h : Int), Value.int .u64 (l : Int)]) := Lib.hid fun W hf => HA1.out.fr hf id
    have F := Lib.hid (Fr.refl N0 w1)
    obtain ⟨z1_0, z1_1, z1_2⟩ := (HZ1.out _ F.out).c3
    go_wp2_with (first
      | (go_at_call 65; refine (k29 _).mono ?_; rintro e w2 ⟨rfl, hf⟩; have F := Lib.hid (F.out.trans hf); obtain ⟨z1_0, z1_1, z1_2⟩ := (HZ1.out _ F.out).c3))
    go_ret
    exact ⟨rfl, HF1.out.trans F.out⟩
  | true =>
    have k29 := fun w => c29 w hv
    clear c29
    cases s with
    | true =>
      have k := fun (w : World) => cls6 (w := w) h l ho1
      unfold adV at k
      obtain ⟨r, hr⟩ : ∃ r, r = clsA ⟨true, h, l⟩ := ⟨_, rfl⟩
      rw [← hr] at k ⊢
      clear hv hr
      go_enter Tryz.func76, Tryz.ntmps76
      unfold adV
      go_wp2_with fail
      have HA1 := Lib.hid (Blk.new w 30 #[Value.bool true, Value.int .u64 (h : Int), Value.int .u64 (l : Int)])
      have HF1 := Lib.hid (Fr.alloc (Fr.refl N0 w) (.cells #[Value.bool true, Value.int .u64 (h : Int), Value.int .u64 (l : Int)] 30))
      generalize w.alloc _ = w1 at *
      obtain ⟨g1, hg1⟩ : ∃ g1, g1 = w.heap.size := ⟨_, rfl⟩
      rw [← hg1] at HA1 ⊢
      have HG1 : Hid (w.heap.size ≤ g1) := Lib.hid (by omega)
      clear hg1
      have HZ1 : Hid (∀ W, Fr N0 w1 W → Blk W g1 30 #[Value.bool true, Value.int .u64 (h : Int), Value.int .u64 (l : Int)]) := Lib.hid fun W hf => HA1.out.fr hf id
      have F := Lib.hid (Fr.refl N0 w1)
      obtain ⟨z1_0, z1_1, z1_2⟩ := (HZ1.out _ F.out).c3
      go_wp2_with (first
        | (go_at_call 65; refine (k29 _).mono ?_; rintro e w2 ⟨rfl, hf⟩; have F := Lib.hid (F.out.trans hf); obtain ⟨z1_0, z1_1, z1_2⟩ := (HZ1.out _ F.out).c3)
        | (go_at_call 101; refine (k _).mono ?_; rintro e w3 ⟨rfl, hf⟩; have F := Lib.hid (F.out.trans hf); obtain ⟨z1_0, z1_1, z1_2⟩ := (HZ1.out _ F.out).c3))
      go_ret
      exact ⟨rfl, HF1.out.trans F.out⟩
    | false =>
      have hf : clsA ⟨false, h, l⟩ = if l = 0 then 0 else if l / 16777216 = 127 then 1 else if l / 65536 = 43518 then 2 else if l = 4294967295 then 4 else if l / 268435456 = 14 then 3 else 5 := by
        unfold clsA
        rw [if_neg (by rw [hv]; decide)]
        rfl
      have HFF := Lib.hid hf
      clear hf hv
      go_enter Tryz.func76, Tryz.ntmps76
      unfold adV
      go_wp2_with fail
      have HA1 := Lib.hid (Blk.new w 30 #[Value.bool false, Value.int .u64 (h : Int), Value.int .u64 (l : Int)])
      have HF1 := Lib.hid (Fr.alloc (Fr.refl N0 w) (.cells #[Value.bool false, Value.int .u64 (h : Int), Value.int .u64 (l : Int)] 30))
      generalize w.alloc _ = w1 at *
      obtain ⟨g1, hg1⟩ : ∃ g1, g1 = w.heap.size := ⟨_, rfl⟩
      rw [← hg1] at HA1 ⊢
      have HG1 : Hid (w.heap.size ≤ g1) := Lib.hid (by omega)
      clear hg1
      have HZ1 : Hid (∀ W, Fr N0 w1 W → Blk W g1 30 #[Value.bool false, Value.int .u64 (h : Int), Value.int .u64 (l : Int)]) := Lib.hid fun W hf => HA1.out.fr hf id
      have F := Lib.hid (Fr.refl N0 w1)
      obtain ⟨z1_0, z1_1, z1_2⟩ := (HZ1.out _ F.out).c3
      go_wp2_with (first
        | (go_at_call 65; refine (k29 _).mono ?_; rintro e w2 ⟨rfl, hf⟩; have F := Lib.hid (F.out.trans hf); obtain ⟨z1_0, z1_1, z1_2⟩ := (HZ1.out _ F.out).c3))
      all_goals go_ret
      all_goals refine ⟨ret_eq ?_, HF1.out.trans F.out⟩
      all_goals (clear k29 z1_0 z1_1 z1_2; rw [HFF.out]; clear HFF; simp only [beq_iff_eq, beq_eq_false_iff_ne, ne_eq] at *; first | omega | ((repeat' split) <;> omega))
end
end Go.Proofs.YtnklbeigikcfkaaGreatDoor
