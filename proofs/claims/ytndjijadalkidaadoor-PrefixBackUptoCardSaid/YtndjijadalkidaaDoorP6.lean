/- addr.Print of sixteen bytes. -/
import Derived.Test.YtndjijadalkidaaDoorGp
namespace Go.Proofs.YtndjijadalkidaaDoor
open Go.Proofs Go.Shelf Go.RowKit
/-- What groups are told as. -/
def txt6 (us : List Nat) : ByteArray := if (gapP us).2 = 0 then txG us else txG (us.take (gapP us).1) ++ ⟨#[58, 58]⟩ ++ txG (us.drop (gapP us).2)
theorem txG_size (us : List Nat) : (txG us).size ≤ 5 * us.length := by
  have := join_le us
  have e : (txG us).size = (Lib.join (us.map hxT) [58]).length := by simp [txG, ByteArray.size]
  omega
theorem gsA_len (a : Ad) : (gsA a).length = 8 := by simp [gsA]
theorem gsA_lt (a : Ad) : ∀ u ∈ gsA a, u < 65536 := by
  intro u hu
  unfold gsA at hu
  obtain ⟨k, _, rfl⟩ := List.mem_map.1 hu
  exact grA_lt a k
section
variable {w : World}
set_option maxHeartbeats 3200000 in
set_option maxRecDepth 100000 in
theorem prt6 (h l : Nat) (hd : D4 w) : Calls Tryd.prog 38 #[adV ⟨true, h, l⟩] w fun e w' => e = .returned (.string (txt6 (gsA ⟨true, h, l⟩))) ∧ Fr N0 w w' := by
  have k29 : ∀ (w : World), Calls Tryd.prog 29 #[.agg #[.bool true, .int .u64 (h : Int), .int .u64 (l : Int)]] w fun e w' => e = .returned (.bool true) ∧ Fr N0 w w' := fun w => aval (w := w) ⟨true, h, l⟩
  obtain ⟨us, hus⟩ : ∃ us, us = gsA ⟨true, h, l⟩ := ⟨_, rfl⟩
  have h8 : us.length = 8 := by rw [hus]; exact gsA_len _
  have hlt : ∀ u ∈ us, u < 65536 := by rw [hus]; exact gsA_lt _
  obtain ⟨cs, hcs⟩ : ∃ cs, cs = (us.map g16v).toArray := ⟨_, rfl⟩
  have k51 : ∀ (w : World), Calls Tryd.prog 51 #[.agg #[.bool true, .int .u64 (h : Int), .int .u64 (l : Int)]] w fun e w' => e = .returned (.agg cs) ∧ Fr N0 w w' := fun w => by
    have := split_ (w := w) ⟨true, h, l⟩
    rw [← hus] at this
    rw [hcs]
    exact this
  have hgl := gapP_le us h8
  have k52 : ∀ (w : World), Calls Tryd.prog 52 #[.agg cs] w fun e w' => e = .returned (.tuple #[.int .i64 ((gapP us).1 : Int), .int .i64 ((gapP us).2 : Int)]) ∧ Fr N0 w w' := fun w => by
    rw [hcs]
    exact gap_ (w := w) us h8 hlt
  rw [← hus]
  unfold txt6
  obtain ⟨f, hf⟩ : ∃ f, f = (gapP us).1 := ⟨_, rfl⟩
  obtain ⟨t, ht⟩ : ∃ t, t = (gapP us).2 := ⟨_, rfl⟩
  rw [← hf, ← ht] at k52 hgl ⊢
  have hsz : cs.size = 8 := by rw [hcs]; simp [h8]
  have hon : cs.all (·.oneCell') = true := by
    rw [hcs]
    simp [g16v, Value.oneCell']
  have HS := Lib.hid (show (Tryd.prog.info? 68).map (·.size) = some cs.size by rw [hsz]; kernel_rfl)
  have HO := Lib.hid hon
  have H8 := Lib.hid hsz
  have HA : Hid (∀ (k u : Nat), us[k]? = some u → cs[k]? = some (.int .u16 (u : Int))) := Lib.hid fun k u hk => by
    rw [hcs, List.getElem?_toArray, List.getElem?_map, hk]
    rfl
  have HL := Lib.hid hlt
  have HU8 := Lib.hid h8
  have hal : Tryd.prog.arrayLen 68 = 8 := by simp [Program.arrayLen, Tryd.underlying68]
  have hu : Tryd.prog.underlying 68 = some (.array (Tryd.prog.arrayLen 68) (Tryd.prog.elem 68)) := by simp [Program.arrayLen, Program.elem, Tryd.underlying68]
  have hsl0 : ∀ (W : World) (g : Nat), (Instr.sliceAt 68 (.pointer (some ⟨g, 0, none⟩)) none none none).run Tryd.prog W = .ok (.slice (some ⟨g, 0, none⟩) 8 8) W := fun W g => by
    rw [run_sliceAt_array_all W 68 ⟨g, 0, none⟩ hu, hal]
    clear hu hal
    go_simp
  have hsl1 : ∀ (W : World) (g : Nat), (Instr.sliceAt 68 (.pointer (some ⟨g, 0, none⟩)) none (some (.int .i64 (f : Int))) none).run Tryd.prog W = .ok (.slice (some ⟨g, 0, none⟩) f 8) W := fun W g => by
    rw [run_sliceAt_array_h W 68 ⟨g, 0, none⟩ hu .i64 (f : Int) (by omega) (by rw [hal]; omega), hal]
    have e : ((f : Int)).toNat = f := Int.toNat_natCast _
    rw [e]
    clear hu hal
    go_simp
  obtain ⟨o, ho⟩ : ∃ o, o = if t = 8 then 0 else t := ⟨_, rfl⟩
  have hsl2 : ∀ (W : World) (g : Nat), (Instr.sliceAt 68 (.pointer (some ⟨g, 0, none⟩)) (some (.int .i64 (t : Int))) none none).run Tryd.prog W = .ok (.slice (some ⟨g, o, none⟩) (8 - t) (8 - t)) W := fun W g => by
    rw [run_sliceAt_array_l W 68 ⟨g, 0, none⟩ hu .i64 (t : Int) (by omega) (by rw [hal]; omega), hal]
    have e : ((t : Int)).toNat = t := Int.toNat_natCast _
    rw [e, ho]
    clear hu hal
    by_cases h8 : t = 8
    · subst h8
      go_simp
    · have h9 : ¬ (8 = t) := by omega
      simp only [slicedAt, if_neg h8, if_neg h9]
      go_simp
  have HD := Lib.hid hd
  clear hus hcs h8 hlt hsz hon hal hu hf ht hd
  by_cases ht0 : t = 0
  · rw [if_pos ht0]
    subst ht0
    go_enter Tryd.func38, Tryd.ntmps38
    unfold adV
    go_wp2_with fail
    have HA1 := Lib.hid (Blk.new w 24 #[Value.bool true, Value.int .u64 (h : Int), Value.int .u64 (l : Int)])
    have HF1 := Lib.hid (Fr.alloc (Fr.refl N0 w) (.cells #[Value.bool true, Value.int .u64 (h : Int), Value.int .u64 (l : Int)] 24))
    generalize w.alloc _ = w1 at *
    obtain ⟨g1, hg1⟩ : ∃ g1, g1 = w.heap.size := ⟨_, rfl⟩
    rw [← hg1] at HA1 ⊢
    have HG1 : Hid (w.heap.size ≤ g1) := Lib.hid (by omega)
    clear hg1
    have HZ1 : Hid (∀ W, Fr N0 w1 W → Blk W g1 24 #[Value.bool true, Value.int .u64 (h : Int), Value.int .u64 (l : Int)]) := Lib.hid fun W hf => HA1.out.fr hf id
    have F := Lib.hid (Fr.refl N0 w1)
    obtain ⟨z1_0, z1_1, z1_2⟩ := (HZ1.out _ F.out).c3
    go_wp2_with (first
      | (go_at_call 29; refine (k29 _).mono ?_; rintro e w2 ⟨rfl, hf⟩; have F := Lib.hid (F.out.trans hf); obtain ⟨z1_0, z1_1, z1_2⟩ := (HZ1.out _ F.out).c3)
      | (go_at_call 51; refine (k51 _).mono ?_; rintro e w3 ⟨rfl, hf3⟩)
      | (refine wpList_store_row rfl 68 _ _ rfl w3.heap.size _ rfl rfl _ _ (Blk.new w3 68 #[.int .u16 0, .int .u16 0, .int .u16 0, .int .u16 0, .int .u16 0, .int .u16 0, .int .u16 0, .int .u16 0]) HS.out (by rw [H8.out]; rfl) HO.out ?_)
      | (refine wpList_load_row rfl 68 (.tmp 5) rfl w3.heap.size rfl 68 _ (0, 0) _ ((Blk.new w3 68 #[.int .u16 0, .int .u16 0, .int .u16 0, .int .u16 0, .int .u16 0, .int .u16 0, .int .u16 0, .int .u16 0]).row cs) Tryd.underlying68 rfl HS.out ?_)
      | (go_at_call 52; refine (k52 _).mono ?_; rintro e w4 ⟨rfl, hf4⟩; have HW3 := Lib.hid ((HF1.out.trans F.out).trans hf3); have B4 := Lib.hid (((Blk.new w3 68 #[.int .u16 0, .int .u16 0, .int .u16 0, .int .u16 0, .int .u16 0, .int .u16 0, .int .u16 0, .int .u16 0]).row cs).fr hf4 id); have F4 := Lib.hid ((Fr.setRow (HW3.out.alloc (.cells #[.int .u16 0, .int .u16 0, .int .u16 0, .int .u16 0, .int .u16 0, .int .u16 0, .int .u16 0, .int .u16 0] 68)) (.inr HW3.out.size) cs).trans hf4); clear hf3 hf4; have HDD := Lib.hid (HD.out.fr F4.out))
      | (go_at_call 53; refine (texts_ w3.heap.size 0 8 8 68 cs us HU8.out (Nat.le_refl _) B4.out (fun k u hk => by rw [Nat.zero_add]; exact HA.out k u hk) HL.out HDD.out).mono ?_; rintro e w6 ⟨rfl, hf6⟩))
    go_ret
    exact ⟨rfl, F4.out.trans hf6⟩
  · rw [if_neg ht0]
    have htb : ((t : Int) == 0) = false := by simp; omega
    have htI : ¬ (t : Int) = 0 := by omega
    have HT := Lib.hid ht0
    have HTK := Lib.hid hgl
    have q1 := fun (g : Nat) (W : World) (hB : Blk W g 68 cs) (hW : D4 W) => texts_ (w := W) g 0 f 8 68 cs (us.take f) (by rw [List.length_take, HU8.out]; omega) (by omega) hB (fun k u hk => by
      rw [Nat.zero_add]
      exact HA.out k u (by rw [List.getElem?_take] at hk; split at hk; exact hk; cases hk)) (fun u hu => HL.out u (List.mem_of_mem_take hu)) hW
    have q2 := fun (g : Nat) (W : World) (hB : Blk W g 68 cs) (hW : D4 W) => texts_ (w := W) g o (8 - t) (8 - t) 68 cs (us.drop t) (by rw [List.length_drop, HU8.out]) (by omega) hB (fun k u hk => by
      have h1 : us[t + k]? = some u := by rw [List.getElem?_drop] at hk; exact hk
      have h2 : t + k < us.length := (List.getElem?_eq_some_iff.1 h1).1
      rw [HU8.out] at h2
      rw [ho, if_neg (by omega)]
      exact HA.out _ u h1) (fun u hu => HL.out u (List.mem_of_mem_drop hu)) hW
    have hA : (txG (us.take f)).size ≤ 40 := by have := txG_size (us.take f); rw [List.length_take, HU8.out] at this; omega
    have hB : (txG (us.drop t)).size ≤ 40 := by have := txG_size (us.drop t); rw [List.length_drop, HU8.out] at this; omega
    generalize txG (us.take f) = A at *
    generalize txG (us.drop t) = B at *
    have Q1 := Lib.hid q1
    have Q2 := Lib.hid q2
    clear q1 q2 ho ht0
    go_enter Tryd.func38, Tryd.ntmps38
    unfold adV
    go_wp2_with fail
    have HA1 := Lib.hid (Blk.new w 24 #[Value.bool true, Value.int .u64 (h : Int), Value.int .u64 (l : Int)])
    have HF1 := Lib.hid (Fr.alloc (Fr.refl N0 w) (.cells #[Value.bool true, Value.int .u64 (h : Int), Value.int .u64 (l : Int)] 24))
    generalize w.alloc _ = w1 at *
    obtain ⟨g1, hg1⟩ : ∃ g1, g1 = w.heap.size := ⟨_, rfl⟩
    rw [← hg1] at HA1 ⊢
    have HG1 : Hid (w.heap.size ≤ g1) := Lib.hid (by omega)
    clear hg1
    have HZ1 : Hid (∀ W, Fr N0 w1 W → Blk W g1 24 #[Value.bool true, Value.int .u64 (h : Int), Value.int .u64 (l : Int)]) := Lib.hid fun W hf => HA1.out.fr hf id
    have F := Lib.hid (Fr.refl N0 w1)
    obtain ⟨z1_0, z1_1, z1_2⟩ := (HZ1.out _ F.out).c3
    go_wp2_with (first
      | (go_at_call 29; refine (k29 _).mono ?_; rintro e w2 ⟨rfl, hf⟩; have F := Lib.hid (F.out.trans hf); obtain ⟨z1_0, z1_1, z1_2⟩ := (HZ1.out _ F.out).c3)
      | (go_at_call 51; refine (k51 _).mono ?_; rintro e w3 ⟨rfl, hf3⟩)
      | (refine wpList_store_row rfl 68 _ _ rfl w3.heap.size _ rfl rfl _ _ (Blk.new w3 68 #[.int .u16 0, .int .u16 0, .int .u16 0, .int .u16 0, .int .u16 0, .int .u16 0, .int .u16 0, .int .u16 0]) HS.out (by rw [H8.out]; rfl) HO.out ?_)
      | (refine wpList_load_row rfl 68 (.tmp 5) rfl w3.heap.size rfl 68 _ (0, 0) _ ((Blk.new w3 68 #[.int .u16 0, .int .u16 0, .int .u16 0, .int .u16 0, .int .u16 0, .int .u16 0, .int .u16 0, .int .u16 0]).row cs) Tryd.underlying68 rfl HS.out ?_)
      | (go_at_call 52; refine (k52 _).mono ?_; rintro e w4 ⟨rfl, hf4⟩; have HW3 := Lib.hid ((HF1.out.trans F.out).trans hf3); have B4 := Lib.hid (((Blk.new w3 68 #[.int .u16 0, .int .u16 0, .int .u16 0, .int .u16 0, .int .u16 0, .int .u16 0, .int .u16 0, .int .u16 0]).row cs).fr hf4 id); have F4 := Lib.hid ((Fr.setRow (HW3.out.alloc (.cells #[.int .u16 0, .int .u16 0, .int .u16 0, .int .u16 0, .int .u16 0, .int .u16 0, .int .u16 0, .int .u16 0] 68)) (.inr HW3.out.size) cs).trans hf4); clear hf3 hf4; have HDD := Lib.hid (HD.out.fr F4.out))
      | fail)
    have p1 := fun x : Fam w4 => Q1.out _ x.w (B4.out.fr x.fr id) (HDD.out.fr x.fr)
    have p2 := fun x : Fam w4 => Q2.out _ x.w (B4.out.fr x.fr id) (HDD.out.fr x.fr)
    refine wp_region_fam (by kernel_rfl) (by kernel_rfl) ?_
    repeat (go_big_quiet_step ((first
      | (go_at_call_of 53 f; exact fam_call (p1 _))
      | (go_at_call 53; exact fam_call (p2 _)))))
    first | refine wpQuiet_nil ?_ | (go_big_quiet_want; go_big_quiet_op; done)
    rintro _ ⟨xq, rfl⟩
    go_wp2_with fail
    go_ret
    exact ⟨rfl, F4.out.trans xq.fr⟩
end
end Go.Proofs.YtndjijadalkidaaDoor
