/- addr.Bytes. -/
import Derived.Test.YtcameghlkplgfaaGreatDoorHa
import Derived.Test.YtcameghlkplgfaaGreatDoorOwn
import Derived.Deep.DeepCutAuto
import Derived.Deep.CutBlock
import Derived.OwnWalk
namespace Go.Proofs.YtcameghlkplgfaaGreatDoor
open Go.RowKit
def u8v (x : Nat) : Value := .int .u8 (x : Int)
/-- A slice of bytes of the call's own, made since w. -/
def Bx (w wr : World) (v : Value) (l : List Nat) : Prop :=
  ∃ A c, v = .slice A l.length c ∧ Own wr 5 1 A l.length c (l.map u8v) ∧ (∀ g, A = some ⟨g, 0, none⟩ → w.heap.size ≤ g) ∧ Fr N0 w wr
theorem Bx.nil_ (w : World) : Bx w w (.slice none 0 0) [] := ⟨none, 0, rfl, Own.nil_ _ _ _, nofun, Fr.refl _ _⟩
theorem info5 : (Tryz.prog.info? 5).map (fun i => (i.zero, i.size, i.bytes)) = some (some (.int .u8 0), 1, 1) := by kernel_rfl
theorem Bx.step {w wr w' : World} {A : Option Addr} {g' c' n x : Nat} {l : List Nat} {X : Int} (G1 : ∀ g, A = some ⟨g, 0, none⟩ → w.heap.size ≤ g) (F1 : Fr N0 w wr) (hn : l.length = n)
    (hO' : Own w' 5 1 (some ⟨g', 0, none⟩) (n + 1) c' (l.map u8v ++ [.int .u8 X])) (hF' : Fr (fun i => A = some ⟨i, 0, none⟩) wr w') (hA' : A = some ⟨g', 0, none⟩ ∨ wr.heap.size ≤ g') (hX : X = (x : Int)) :
    Bx w w' (.slice (some ⟨g', 0, none⟩) (n + 1) c') (l ++ [x]) := by
  subst hX
  refine ⟨some ⟨g', 0, none⟩, c', by rw [List.length_append, hn]; rfl, by rw [List.length_append, hn, List.map_append]; exact hO', ?_, F1.step hF' fun i hi => .inr (G1 i hi)⟩
  intro g e
  rcases hA' with h | h
  · exact G1 g (h.trans e)
  · injection e with e
    injection e with e
    rw [← e]
    exact Nat.le_trans F1.size h
theorem Bx.up {w w2 wr : World} {v : Value} {l : List Nat} (k : Bx w2 wr v l) (hF : Fr N0 w w2) : Bx w wr v l := by
  obtain ⟨A, c, h1, h2, h3, h4⟩ := k
  exact ⟨A, c, h1, h2, fun g e => Nat.le_trans hF.size (h3 g e), hF.trans h4⟩
theorem Bx.mk' {w wr : World} {A : Option Addr} {c n : Nat} {L l : List Nat} (hn : L.length = n) (hl : L = l) (hO : Own wr 5 1 A n c (L.map u8v)) (hg : ∀ g, A = some ⟨g, 0, none⟩ → w.heap.size ≤ g) (hF : Fr N0 w wr) : Bx w wr (.slice A n c) l := by
  subst hl hn
  exact ⟨A, c, rfl, hO, hg, hF⟩
theorem bytes_hi {h l : Nat} : bytesA ⟨true, h, l⟩ = (List.range 16).map (byteA ⟨true, h, l⟩) := rfl
theorem bytes_lo {h l : Nat} : bytesA ⟨false, h, l⟩ = (List.range 4).map (byteA ⟨false, h, l⟩) := rfl
section
variable {w : World}
set_option maxHeartbeats 1600000 in
set_option maxRecDepth 100000 in
theorem byt_ (a : Ad) (ho : a.ok) : Calls Tryz.prog 30 #[adV a] w fun e w' => ∃ v, e = .returned v ∧ Bx w w' v (if validA a = true then bytesA a else []) := by
  obtain ⟨s, h, l⟩ := a
  obtain ⟨ho1, ho2⟩ := ho
  simp only at ho1 ho2
  have c29 : ∀ (w : World) {b : Bool}, validA ⟨s, h, l⟩ = b → Calls Tryz.prog 27 #[.agg #[.bool s, .int .u64 (h : Int), .int .u64 (l : Int)]] w fun e w' => e = .returned (.bool b) ∧ Fr N0 w w' := fun w b hb => hb ▸ aval (w := w) ⟨s, h, l⟩
  obtain ⟨i0, hi, hz0, hz1, hz2⟩ := info_parts info5
  by_cases hv : validA ⟨s, h, l⟩ = true
  · rw [if_pos hv]
    have k29 := fun w => c29 w hv
    clear c29 hv
    cases s with
    | false =>
      go_enter Tryz.func30, Tryz.ntmps30
      unfold adV
      go_wp2_with fail
      have HA1 := Lib.hid (Blk.new w 24 #[Value.bool false, Value.int .u64 (h : Int), Value.int .u64 (l : Int)])
      have HF1 := Lib.hid (Fr.alloc (Fr.refl N0 w) (.cells #[Value.bool false, Value.int .u64 (h : Int), Value.int .u64 (l : Int)] 24))
      generalize w.alloc _ = w1 at *
      obtain ⟨g1, hg1⟩ : ∃ g1, g1 = w.heap.size := ⟨_, rfl⟩
      rw [← hg1] at HA1 ⊢
      have HG1 : Hid (w.heap.size ≤ g1) := Lib.hid (by omega)
      clear hg1
      have HZ1 : Hid (∀ W, Fr N0 w1 W → Blk W g1 24 #[Value.bool false, Value.int .u64 (h : Int), Value.int .u64 (l : Int)]) := Lib.hid fun W hf => HA1.out.fr hf id
      have F := Lib.hid (Fr.refl N0 w1)
      obtain ⟨z1_0, z1_1, z1_2⟩ := (HZ1.out _ F.out).c3
      go_wp2_with (first
        | (go_at_call 27; refine (k29 _).mono ?_; rintro e w2 ⟨rfl, hf⟩; have F := Lib.hid (F.out.trans hf); obtain ⟨z1_0, z1_1, z1_2⟩ := (HZ1.out _ F.out).c3))
      have F0 := F
      have HW2 := Lib.hid (HF1.out.trans F.out)
      go_loopw [3, 41] (fun v i wr => ∃ j : Nat, j ≤ 4 ∧ i = .int .i64 (j : Int) ∧ Bx w2 wr v ((List.range j).map (byteA ⟨false, h, l⟩))) (fun _ i _ => 5 - (intOf i).toNat)
      case atStart => exact ⟨0, by omega, rfl, Bx.nil_ _⟩
      case round =>
        obtain ⟨j, hj, rfl, A, c, rfl, hO, hg, hF⟩ := hrel
        obtain ⟨L, hL⟩ : ∃ L, L = (List.range j).map (byteA ⟨false, h, l⟩) := ⟨_, rfl⟩
        rw [← hL] at hO ⊢
        have HLN := Lib.hid (show L.length = j by rw [hL]; simp)
        rw [HLN.out] at hO ⊢
        have HL := Lib.hid hL
        have O1 := Lib.hid hO
        have G1 := Lib.hid hg
        have F1 := Lib.hid hF
        have F := Lib.hid (F0.out.trans hF)
        clear hO hg hF hL
        obtain ⟨z1_0, z1_1, z1_2⟩ := (HZ1.out _ F.out).c3
        by_cases hj4 : j < 4
        · have hjI : (j : Int) < 4 := by omega
          go_wp2_with (at_builtin; refine wpList_append1 wr rfl (.tmp 44) (.tmp 52) 53 rfl 5 i0 (.int .u8 0) 1 1 Tryz.underlying53 hi hz0 hz1 hz2 rfl (by omega) A (j) c _ rfl O1.out [.int .u8 ((l : Int) / 2 ^ (24 - 8 * j) % 256)] rfl rfl ?_ ?_ ?_ ?_)
          · simp [Value.oneCell']
          · omega
          · omega
          · intro g' c' w' hO' hF' hA'
            have HB := Lib.hid (Bx.step G1.out F1.out HLN.out hO' hF' hA' (show _ = ((byteA ⟨false, h, l⟩ (j) : Nat) : Int) by simp [byteA]))
            clear hO' hF' hA'
            go_wp2_with fail
            go_roundw
            case rel => first | exact ⟨j + 1, by omega, by go_num, by rw [List.range_succ, List.map_append, ← HL.out]; exact HB.out⟩ | ((repeat apply Exists.intro); exact ⟨⟨j + 1, by omega, by go_num, by rw [List.range_succ, List.map_append, ← HL.out]; exact HB.out⟩, rfl⟩)
            case measure => simp [intOf]; omega
        · obtain rfl : j = 4 := by omega
          go_wp2_with fail
          go_ret
          exact ⟨_, rfl, (Bx.mk' HLN.out (HL.out.trans bytes_lo.symm) O1.out G1.out F1.out).up HW2.out⟩
    | true =>
      go_enter Tryz.func30, Tryz.ntmps30
      unfold adV
      go_wp2_with fail
      have HA1 := Lib.hid (Blk.new w 24 #[Value.bool true, Value.int .u64 (h : Int), Value.int .u64 (l : Int)])
      have HF1 := Lib.hid (Fr.alloc (Fr.refl N0 w) (.cells #[Value.bool true, Value.int .u64 (h : Int), Value.int .u64 (l : Int)] 24))
      generalize w.alloc _ = w1 at *
      obtain ⟨g1, hg1⟩ : ∃ g1, g1 = w.heap.size := ⟨_, rfl⟩
      rw [← hg1] at HA1 ⊢
      have HG1 : Hid (w.heap.size ≤ g1) := Lib.hid (by omega)
      clear hg1
      have HZ1 : Hid (∀ W, Fr N0 w1 W → Blk W g1 24 #[Value.bool true, Value.int .u64 (h : Int), Value.int .u64 (l : Int)]) := Lib.hid fun W hf => HA1.out.fr hf id
      have F := Lib.hid (Fr.refl N0 w1)
      obtain ⟨z1_0, z1_1, z1_2⟩ := (HZ1.out _ F.out).c3
      go_wp2_with (first
        | (go_at_call 27; refine (k29 _).mono ?_; rintro e w2 ⟨rfl, hf⟩; have F := Lib.hid (F.out.trans hf); obtain ⟨z1_0, z1_1, z1_2⟩ := (HZ1.out _ F.out).c3))
      have F0 := F
      have HW2 := Lib.hid (HF1.out.trans F.out)
      go_loopw [3, 12] (fun v i wr => ∃ j : Nat, j ≤ 8 ∧ i = .int .i64 (j : Int) ∧ Bx w2 wr v ((List.range j).map (byteA ⟨true, h, l⟩))) (fun _ i _ => 9 - (intOf i).toNat)
      case atStart => exact ⟨0, by omega, rfl, Bx.nil_ _⟩
      case round =>
        obtain ⟨j, hj, rfl, A, c, rfl, hO, hg, hF⟩ := hrel
        obtain ⟨L, hL⟩ : ∃ L, L = (List.range j).map (byteA ⟨true, h, l⟩) := ⟨_, rfl⟩
        rw [← hL] at hO ⊢
        have HLN := Lib.hid (show L.length = j by rw [hL]; simp)
        rw [HLN.out] at hO ⊢
        have HL := Lib.hid hL
        have O1 := Lib.hid hO
        have G1 := Lib.hid hg
        have F1 := Lib.hid hF
        have F := Lib.hid (F0.out.trans hF)
        clear hO hg hF hL
        obtain ⟨z1_0, z1_1, z1_2⟩ := (HZ1.out _ F.out).c3
        by_cases hj4 : j < 8
        · have hjI : (j : Int) < 8 := by omega
          go_wp2_with (at_builtin; refine wpList_append1 wr rfl (.tmp 15) (.tmp 23) 53 rfl 5 i0 (.int .u8 0) 1 1 Tryz.underlying53 hi hz0 hz1 hz2 rfl (by omega) A (j) c _ rfl O1.out [.int .u8 ((h : Int) / 2 ^ (56 - 8 * j) % 256)] rfl rfl ?_ ?_ ?_ ?_)
          · simp [Value.oneCell']
          · omega
          · omega
          · intro g' c' w' hO' hF' hA'
            have HB := Lib.hid (Bx.step G1.out F1.out HLN.out hO' hF' hA' (show _ = ((byteA ⟨true, h, l⟩ (j) : Nat) : Int) by simp [byteA, hj4]))
            clear hO' hF' hA'
            go_wp2_with fail
            go_roundw
            case rel => first | exact ⟨j + 1, by omega, by go_num, by rw [List.range_succ, List.map_append, ← HL.out]; exact HB.out⟩ | ((repeat apply Exists.intro); exact ⟨⟨j + 1, by omega, by go_num, by rw [List.range_succ, List.map_append, ← HL.out]; exact HB.out⟩, rfl⟩)
            case measure => simp [intOf]; omega
        · obtain rfl : j = 8 := by omega
          go_wp2_with fail
          have HB8 := Lib.hid (Bx.mk' HLN.out HL.out O1.out G1.out F1.out)
          clear HLN HL O1 G1 F1
          go_loopw [3, 26] (fun v i wr => ∃ j : Nat, j ≤ 8 ∧ i = .int .i64 (j : Int) ∧ Bx w2 wr v ((List.range (8 + j)).map (byteA ⟨true, h, l⟩))) (fun _ i _ => 9 - (intOf i).toNat)
          case atStart => exact ⟨0, by omega, rfl, HB8.out⟩
          case round =>
            obtain ⟨j, hj, rfl, A, c, rfl, hO, hg, hF⟩ := hrel
            obtain ⟨L, hL⟩ : ∃ L, L = (List.range (8 + j)).map (byteA ⟨true, h, l⟩) := ⟨_, rfl⟩
            rw [← hL] at hO ⊢
            have HLN := Lib.hid (show L.length = 8 + j by rw [hL]; simp)
            rw [HLN.out] at hO ⊢
            have HL := Lib.hid hL
            have O1 := Lib.hid hO
            have G1 := Lib.hid hg
            have F1 := Lib.hid hF
            have F := Lib.hid (F0.out.trans hF)
            clear hO hg hF hL
            obtain ⟨z1_0, z1_1, z1_2⟩ := (HZ1.out _ F.out).c3
            by_cases hj4 : j < 8
            · have hjI : (j : Int) < 8 := by omega
              go_wp2_with (at_builtin; refine wpList_append1 wr rfl (.tmp 29) (.tmp 37) 53 rfl 5 i0 (.int .u8 0) 1 1 Tryz.underlying53 hi hz0 hz1 hz2 rfl (by omega) A (8 + j) c _ rfl O1.out [.int .u8 ((l : Int) / 2 ^ (56 - 8 * j) % 256)] rfl rfl ?_ ?_ ?_ ?_)
              · simp [Value.oneCell']
              · omega
              · omega
              · intro g' c' w' hO' hF' hA'
                have HB := Lib.hid (Bx.step G1.out F1.out HLN.out hO' hF' hA' (show _ = ((byteA ⟨true, h, l⟩ (8 + j) : Nat) : Int) by simp [byteA, show 120 - 8 * (8 + j) = 56 - 8 * j by omega, show ¬ (8 + j < 8) by omega]))
                clear hO' hF' hA'
                go_wp2_with fail
                go_roundw
                case rel => first | exact ⟨j + 1, by omega, by go_num, by rw [← Nat.add_assoc, List.range_succ, List.map_append, ← HL.out]; exact HB.out⟩ | ((repeat apply Exists.intro); exact ⟨⟨j + 1, by omega, by go_num, by rw [← Nat.add_assoc, List.range_succ, List.map_append, ← HL.out]; exact HB.out⟩, rfl⟩)
                case measure => simp [intOf]; omega
            · obtain rfl : j = 8 := by omega
              go_wp2_with fail
              go_ret
              exact ⟨_, rfl, (Bx.mk' HLN.out (HL.out.trans bytes_hi.symm) O1.out G1.out F1.out).up HW2.out⟩
  · rw [if_neg hv]
    rw [Bool.not_eq_true] at hv
    have k29 := fun w => c29 w hv
    clear c29 hv
    go_enter Tryz.func30, Tryz.ntmps30
    unfold adV
    go_wp2_with fail
    have HA1 := Lib.hid (Blk.new w 24 #[Value.bool s, Value.int .u64 (h : Int), Value.int .u64 (l : Int)])
    have HF1 := Lib.hid (Fr.alloc (Fr.refl N0 w) (.cells #[Value.bool s, Value.int .u64 (h : Int), Value.int .u64 (l : Int)] 24))
    generalize w.alloc _ = w1 at *
    obtain ⟨g1, hg1⟩ : ∃ g1, g1 = w.heap.size := ⟨_, rfl⟩
    rw [← hg1] at HA1 ⊢
    have HG1 : Hid (w.heap.size ≤ g1) := Lib.hid (by omega)
    clear hg1
    have HZ1 : Hid (∀ W, Fr N0 w1 W → Blk W g1 24 #[Value.bool s, Value.int .u64 (h : Int), Value.int .u64 (l : Int)]) := Lib.hid fun W hf => HA1.out.fr hf id
    have F := Lib.hid (Fr.refl N0 w1)
    obtain ⟨z1_0, z1_1, z1_2⟩ := (HZ1.out _ F.out).c3
    go_wp2_with (first
      | (go_at_call 27; refine (k29 _).mono ?_; rintro e w2 ⟨rfl, hf⟩; have F := Lib.hid (F.out.trans hf); obtain ⟨z1_0, z1_1, z1_2⟩ := (HZ1.out _ F.out).c3))
    go_ret
    exact ⟨_, rfl, (Bx.nil_ _).up (HF1.out.trans F.out)⟩
end
end Go.Proofs.YtcameghlkplgfaaGreatDoor
