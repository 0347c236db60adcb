/- The contracts of a share; the chapter's examples, which each law runs ahead of its own part. -/
import Derived.Test.YtpmhncblhdddhaaTok
namespace Go.Proofs.Ytpmhncblhdddhaa
open Go.RowKit

theorem over_zero (x y : Nat) (w : World) (h : (FloatKind.f64.format.order y 0 == some Ordering.eq) = true) :
    Calls Try.prog 20 #[.float .f64 x, .float .f64 y] w fun e w' => e = .returned (.float .f64 0) ∧ w = w' := by
  go_enter Try.func20, Try.ntmps20
  go_wp2
  go_ret
  exact ⟨rfl, rfl⟩

theorem over_quo (x y q : Nat) (w : World) (h : (FloatKind.f64.format.order y 0 == some Ordering.eq) = false) (hq : ∀ W, (binOp .quo 23 (.float .f64 x) (.float .f64 y)).run Try.prog W = .ok (.float .f64 q) W) :
    Calls Try.prog 20 #[.float .f64 x, .float .f64 y] w fun e w' => e = .returned (.float .f64 q) ∧ w = w' := by
  go_enter Try.func20, Try.ntmps20
  go_wp2
  go_ret
  exact ⟨rfl, rfl⟩

theorem share_any (a b c d q1 q2 : Nat) (w : World) (h1 : ∀ W, Calls Try.prog 20 #[.float .f64 a, .float .f64 c] W fun e w' => e = .returned (.float .f64 q1) ∧ W = w')
    (h2 : ∀ W, Calls Try.prog 20 #[.float .f64 b, .float .f64 d] W fun e w' => e = .returned (.float .f64 q2) ∧ W = w') :
    Calls Try.prog 9 #[.complex .f64 a b, .complex .f64 c d] w fun e w' => e = .returned (.complex .f64 q1 q2) ∧ w = w' := by
  have H1 := Lib.hid h1
  have H2 := Lib.hid h2
  clear h1 h2
  go_enter Try.func9, Try.ntmps9
  go_wp2_with fail
  refine (H1.out _).mono ?_
  rintro e w' ⟨rfl, rfl⟩
  go_wp2_with fail
  refine (H2.out _).mono ?_
  rintro e w' ⟨rfl, rfl⟩
  go_wp2_with fail
  go_ret
  exact ⟨rfl, rfl⟩

theorem share_awake (w : World) : Calls Try.prog 9 #[.complex .f64 4611686018427387904 4629137466983448576, .complex .f64 4620693217682128896 4638144666238189568] w fun e w' => e = .returned (.complex .f64 4598175219545276416 4598175219545276416) ∧ w = w' :=
  share_any _ _ _ _ _ _ w (fun W => over_quo _ _ _ W (by kernel_rfl) (fun _ => by kernel_rfl)) (fun W => over_quo _ _ _ W (by kernel_rfl) (fun _ => by kernel_rfl))

set_option maxRecDepth 100000 in
set_option maxHeartbeats 3200000 in
theorem awake_any (w : World) : Calls Try.prog 7 #[] w fun e w' => e = .returned (.bool true) ∧ Below w.heap.size w w' := by
  have q1 : ∀ W, (binOp .eql 25 (.complex .f64 4611686018427387904 4638144666238189568) (.complex .f64 4611686018427387904 4638144666238189568)).run Try.prog W = .ok (.bool true) W := fun _ => by kernel_rfl
  have q2 : ∀ W, (binOp .eql 25 (.complex .f64 4613937818241073152 4638637247447433216) (.complex .f64 4613937818241073152 4638637247447433216)).run Try.prog W = .ok (.bool true) W := fun _ => by kernel_rfl
  have q3 : ∀ W, (binOp .eql 25 (.complex .f64 4598175219545276416 4598175219545276416) (.complex .f64 4598175219545276416 4598175219545276416)).run Try.prog W = .ok (.bool true) W := fun _ => by kernel_rfl
  go_enter Try.func7, Try.ntmps7
  go_wp2_with fail
  refine (mnew_any _).mono ?_
  rintro e w1 ⟨rfl, hw1⟩
  have hM1 : Blk w1 w.heap.size 52 (kinds (.complex .f64 0 0) (.complex .f64 0 0)) := hw1 ▸ Blk.new w 52 _
  have hF1 : Fr (fun _ => False) w w1 := hw1 ▸ (Fr.refl _ w).alloc _
  have hz1 : w1.heap.size = w.heap.size + 1 := by rw [← hw1]; simp
  clear hw1
  generalize hm : w.heap.size = m at *
  have HM := Lib.hid hm
  clear hm
  go_wp2_with fail
  refine (bucket_ok 2 3 _ (by omega) (by omega)).mono ?_
  rintro e w2 ⟨rfl, hw2⟩
  have hM2 := hw2 ▸ hM1.alloc (.cells #[.int .i64 ((2 : Nat) : Int), .int .i64 ((3 : Nat) : Int), .int .i64 ((3 : Nat) : Int)] 49)
  have hT2 : Tok w2 (m + 1) 49 2 3 3 := by
    have := Blk.new w1 49 #[.int .i64 ((2 : Nat) : Int), .int .i64 ((3 : Nat) : Int), .int .i64 ((3 : Nat) : Int)]
    rw [hz1] at this
    rw [← hw2]
    exact this
  have hF2 : Fr (fun _ => False) w w2 := hw2 ▸ hF1.alloc _
  have hB2 := Lib.hid (show Below m w w2 from hF2.below (by rw [HM.out]; exact Nat.le_refl _) (fun _ _ h => h.elim))
  have HZ := Lib.hid hz1
  rw [hz1]
  clear hw2 hM1 hF1 hF2 hz1
  have hS : ∀ i, i = m → m ≤ i := fun i h => by omega
  have hS' : ∀ i, i = m + 1 → m ≤ i := fun i h => by omega
  have hmw : m ≤ w2.heap.size := Nat.le_trans (by rw [HM.out]; exact Nat.le_refl _) hB2.out.size
  have hmw2 := hmw
  go_wp2_with fail
  refine (count_at m 3 100 0 0 4607182418800017408 4636737291354636288 _ _ (by omega) (by omega) hM2 rfl (fun _ => by kernel_rfl)).mono ?_
  rintro e w3 ⟨rfl, hK, hF⟩
  have hM3 : Blk w3 m 52 (kinds (.complex .f64 0 0) (.complex .f64 4607182418800017408 4636737291354636288)) := hK
  have hT3 := hT2.fr hF (show ¬ m + 1 = m by omega)
  have hB3 := Lib.hid (below_fr hB2.out hF hmw2 hS)
  have hmw3 : m ≤ w3.heap.size := Nat.le_trans hmw2 hF.size
  clear hF hM2 hT2 hK
  go_wp2_with fail
  refine (count_at m 3 20 4607182418800017408 4636737291354636288 4611686018427387904 4638144666238189568 _ _ (by omega) (by omega) hM3 rfl (fun _ => by kernel_rfl)).mono ?_
  rintro e w4 ⟨rfl, hK, hF⟩
  have hM4 : Blk w4 m 52 (kinds (.complex .f64 0 0) (.complex .f64 4611686018427387904 4638144666238189568)) := hK
  have hT4 := hT3.fr hF (show ¬ m + 1 = m by omega)
  have hB4 := Lib.hid (below_fr hB3.out hF hmw3 hS)
  have hmw4 : m ≤ w4.heap.size := Nat.le_trans hmw3 hF.size
  clear hF hM3 hT3 hK
  go_wp2_with fail
  refine (count_at m 0 7 0 0 4607182418800017408 4619567317775286272 _ _ (by omega) (by omega) hM4 rfl (fun _ => by kernel_rfl)).mono ?_
  rintro e w5 ⟨rfl, hK, hF⟩
  have hM5 : Blk w5 m 52 (kinds (.complex .f64 4607182418800017408 4619567317775286272) (.complex .f64 4611686018427387904 4638144666238189568)) := hK
  have hT5 := hT4.fr hF (show ¬ m + 1 = m by omega)
  have hB5 := Lib.hid (below_fr hB4.out hF hmw4 hS)
  have hmw5 : m ≤ w5.heap.size := Nat.le_trans hmw4 hF.size
  clear hF hM4 hT4 hK
  go_wp2_with fail
  refine (count_no _ 16 0 _ (by omega)).mono ?_
  rintro e w' ⟨rfl, rfl⟩
  go_wp2_with fail
  refine (told_at m 3 (.complex .f64 4611686018427387904 4638144666238189568) _ _ (by omega) hM5 rfl).mono ?_
  rintro e w' ⟨rfl, rfl⟩
  go_wp2_with fail
  refine (all_at m _ hM5).mono ?_
  rintro e w' ⟨rfl, rfl⟩
  clear hM5
  go_wp2_with fail
  refine (take_no (m + 1) 2 3 3 4 _ hT5 (by omega)).mono ?_
  rintro e w' ⟨rfl, rfl⟩
  go_wp2_with fail
  refine (take_yes (m + 1) 2 3 3 3 _ hT5 (by omega) (by omega)).mono ?_
  rintro e w6 ⟨rfl, hT6, hF⟩
  have hB6 := Lib.hid (below_fr hB5.out hF hmw5 hS')
  have hmw6 : m ≤ w6.heap.size := Nat.le_trans hmw5 hF.size
  clear hF hT5
  go_wp2_with fail
  refine (take_no (m + 1) 2 3 0 1 _ hT6 (by omega)).mono ?_
  rintro e w' ⟨rfl, rfl⟩
  go_wp2_with fail
  refine (tick_any (m + 1) 2 3 0 _ hT6 (by omega) (by omega)).mono ?_
  rintro e w7 ⟨rfl, hT7, hF⟩
  have hB7 := Lib.hid (below_fr hB6.out hF hmw6 hS')
  have hmw7 : m ≤ w7.heap.size := Nat.le_trans hmw6 hF.size
  clear hF hT6
  go_wp2_with fail
  refine (level_any (m + 1) 2 3 2 _ hT7).mono ?_
  rintro e w' ⟨rfl, rfl⟩
  go_wp2_with fail
  refine (tick_any (m + 1) 2 3 2 _ hT7 (by omega) (by omega)).mono ?_
  rintro e w8 ⟨rfl, hT8, hF⟩
  have hB8 := Lib.hid (below_fr hB7.out hF hmw7 hS')
  clear hF hT7
  go_wp2_with fail
  refine (level_any (m + 1) 2 3 3 _ hT8).mono ?_
  rintro e w' ⟨rfl, rfl⟩
  go_wp2_with fail
  refine (share_awake _).mono ?_
  rintro e w' ⟨rfl, rfl⟩
  go_wp2_with fail
  go_ret
  exact ⟨rfl, by rw [HM.out]; exact hB8.out⟩
end Go.Proofs.Ytpmhncblhdddhaa
