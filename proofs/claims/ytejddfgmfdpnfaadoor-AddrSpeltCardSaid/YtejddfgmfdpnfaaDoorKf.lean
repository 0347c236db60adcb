/- AddrBack: what it answers. -/
import Derived.Test.YtejddfgmfdpnfaaDoorKe
namespace Go.Proofs.YtejddfgmfdpnfaaDoor
open Go.Proofs Go.Shelf Go.RowKit
theorem txt6_size (us : List Nat) (h8 : us.length = 8) : (txt6 us).size ≤ 100 := by
  rw [← pT_all h8, bA_size]
  exact pT_len h8 8
theorem txt4_size (l : Nat) : (txt4 l).size ≤ 16 := by
  have hb : ∀ x ∈ bytesA ⟨false, 0, l⟩, x < 256 := by
    intro x hx
    rw [bytes_lo] at hx
    obtain ⟨k, _, rfl⟩ := List.mem_map.1 hx
    exact byteA_lt _ _
  have h := p4_len hb 4
  have e : txt4 l = bA (p4 (bytesA ⟨false, 0, l⟩) 4) := by
    rw [txt4_bA]
    unfold p4
    rw [List.take_of_length_le (by rw [bytesA_len]; simp)]
  rw [e, bA_size]
  exact h
theorem txtA_size (a : Ad) : (txtA a).size ≤ 100 := by
  unfold txtA
  split
  · exact txt6_size _ (gsA_len _)
  · have := txt4_size a.lo; omega
section
variable {w : World}
theorem parse_txt (a : Ad) (ho : a.ok) (hv : validA a = true) (m : Int) (hm : Mx m w) (hsy : Sy w) : Calls Tryd.prog 11 #[.string (txtA a)] w fun e w' => e = .returned (.tuple #[adV a, .int .i64 0]) ∧ Fr N0 w w' := by
  have h := parse_any (w := w) (txtA a) m (by have := txtA_size a; omega) hm hsy
  rw [parse_txtA ho hv] at h
  exact h
theorem of_sl {a : Ad} (ho : a.ok) (hv : validA a = true) {v : Value} (h : SlB w v (bytesA a)) : Calls Tryd.prog 24 #[v] w fun e w' => e = .returned (.tuple #[adV a, .int .i64 0]) ∧ Fr N0 w w' := by
  obtain ⟨A, c, rfl, h⟩ := h
  have k := of_any (w := w) A (bytesA a).length c (bytesA a) rfl (by
    intro u hu
    unfold bytesA at hu
    obtain ⟨j, _, rfl⟩ := List.mem_map.1 hu
    exact byteA_lt _ _) h
  rw [ofB_bytes ho hv] at k
  exact k
end
set_option maxHeartbeats 6400000 in
set_option maxRecDepth 100000 in
theorem abk_no (w : World) (a : Ad) (ho : a.ok) (hv : validA a = false) (m : Int) (hm : Mx m w) (ht : T10 w) (hd : D4 w) (hsy : Sy w) :
    Calls Tryd.prog 5 #[adV a] w fun e w' => e = .returned (.bool true) ∧ Fr N0 w w' := by
  have hby := fun (W : World) => byt_sl (w := W) a ho
  have ka := fun (W : World) (h : Fr N0 w W) => awake3 (w := W) m (hm.fr h) (hsy.fr h) (hd.fr h)
  have kp := fun (W : World) (h : Fr N0 w W) => prt_ (w := W) a (ht.fr h) (hd.fr h)
  have kv := fun (W : World) => aval (w := W) a
  unfold prtA at kp
  rw [hv] at hby kp kv
  rw [if_neg (by decide)] at hby kp
  obtain ⟨s, h, l⟩ := a
  unfold adV at *
  have HBY := Lib.hid hby
  have KA := Lib.hid ka
  have KP := Lib.hid kp
  clear hby hm ht hd hsy ho ka kp hv
  go_enter Tryd.func5, Tryd.ntmps5
  go_wp2_with fail
  have HA1 := Lib.hid (Blk.new w 25 #[Value.bool s, Value.int .u64 (h : Int), Value.int .u64 (l : Int)])
  have HF1 := Lib.hid (Fr.alloc (Fr.refl N0 w) (.cells #[Value.bool s, Value.int .u64 (h : Int), Value.int .u64 (l : Int)] 25))
  generalize w.alloc _ = w1 at *
  obtain ⟨g1, hg1⟩ : ∃ g1, g1 = w.heap.size := ⟨_, rfl⟩
  rw [← hg1] at HA1 ⊢
  have HG1 : Hid (w.heap.size ≤ g1) := Lib.hid (by omega)
  clear hg1
  have HZ1 : Hid (∀ W, Fr N0 w1 W → Blk W g1 25 #[Value.bool s, Value.int .u64 (h : Int), Value.int .u64 (l : Int)]) := Lib.hid fun W hf => HA1.out.fr hf id
  have F := Lib.hid (Fr.refl N0 w1)
  obtain ⟨z1_0, z1_1, z1_2⟩ := (HZ1.out _ F.out).c3
  refine (KA.out _ HF1.out).mono ?_
  rintro e w2 ⟨rfl, hf⟩
  have F := Lib.hid (F.out.trans hf); obtain ⟨z1_0, z1_1, z1_2⟩ := (HZ1.out _ F.out).c3
  go_wp2_with fail
  refine (KP.out _ (HF1.out.trans F.out)).mono ?_
  rintro e w3 ⟨rfl, hf⟩
  have F := Lib.hid (F.out.trans hf); obtain ⟨z1_0, z1_1, z1_2⟩ := (HZ1.out _ F.out).c3
  go_wp2_with fail
  refine (HBY.out _).mono ?_
  rintro e w4 ⟨v, rfl, hf, A, c, rfl, _⟩
  have F := Lib.hid (F.out.trans hf); obtain ⟨z1_0, z1_1, z1_2⟩ := (HZ1.out _ F.out).c3
  go_wp2_with (go_at_call 18; refine (kv _).mono ?_; rintro e w5 ⟨rfl, hf⟩; have F := Lib.hid (F.out.trans hf); obtain ⟨z1_0, z1_1, z1_2⟩ := (HZ1.out _ F.out).c3)
  go_ret
  exact ⟨rfl, HF1.out.trans F.out⟩
set_option maxHeartbeats 6400000 in
set_option maxRecDepth 100000 in
theorem abk_yes (w : World) (a : Ad) (ho : a.ok) (hv : validA a = true) (m : Int) (hm : Mx m w) (ht : T10 w) (hd : D4 w) (hsy : Sy w) :
    Calls Tryd.prog 5 #[adV a] w fun e w' => e = .returned (.bool true) ∧ Fr N0 w w' := by
  have hby := fun (W : World) => byt_sl (w := W) a ho
  have ka := fun (W : World) (h : Fr N0 w W) => awake3 (w := W) m (hm.fr h) (hsy.fr h) (hd.fr h)
  have kp := fun (W : World) (h : Fr N0 w W) => prt_ (w := W) a (ht.fr h) (hd.fr h)
  have kq := fun (W : World) (h : Fr N0 w W) => parse_txt (w := W) a ho hv m (hm.fr h) (hsy.fr h)
  have kv := fun (W : World) => aval (w := W) a
  have ko := fun (W : World) (v : Value) (h : SlB W v (bytesA a)) => of_sl (w := W) ho hv h
  unfold prtA at kp
  rw [hv] at hby kp kv
  rw [if_pos rfl] at hby kp
  have hlen : (bytesA a).length = if a.six = true then 16 else 4 := bytesA_len a
  generalize bytesA a = bs at *
  generalize txtA a = T at *
  have eA := fun (W : World) => eql_ad a a W
  have qA := fun X Y W => guard_ad .eql X Y a a W
  rw [decide_eq_true rfl] at eA
  obtain ⟨s, h, l⟩ := a
  have hsix : ((bs.length : Int) == 16) = s := by
    simp only at hlen
    cases s with
    | true => simp at hlen; rw [hlen]; rfl
    | false => simp at hlen; rw [hlen]; rfl
  unfold adV at *
  have HBY := Lib.hid hby
  have KA := Lib.hid ka
  have KP := Lib.hid kp
  have KQ := Lib.hid kq
  have KO := Lib.hid ko
  have HS := Lib.hid hsix
  clear hby hm ht hd hsy ho ka kp kq ko hv hlen hsix
  go_enter Tryd.func5, Tryd.ntmps5
  go_wp2_with fail
  have HA1 := Lib.hid (Blk.new w 25 #[Value.bool s, Value.int .u64 (h : Int), Value.int .u64 (l : Int)])
  have HF1 := Lib.hid (Fr.alloc (Fr.refl N0 w) (.cells #[Value.bool s, Value.int .u64 (h : Int), Value.int .u64 (l : Int)] 25))
  generalize w.alloc _ = w1 at *
  obtain ⟨g1, hg1⟩ : ∃ g1, g1 = w.heap.size := ⟨_, rfl⟩
  rw [← hg1] at HA1 ⊢
  have HG1 : Hid (w.heap.size ≤ g1) := Lib.hid (by omega)
  clear hg1
  have HZ1 : Hid (∀ W, Fr N0 w1 W → Blk W g1 25 #[Value.bool s, Value.int .u64 (h : Int), Value.int .u64 (l : Int)]) := Lib.hid fun W hf => HA1.out.fr hf id
  have F := Lib.hid (Fr.refl N0 w1)
  obtain ⟨z1_0, z1_1, z1_2⟩ := (HZ1.out _ F.out).c3
  refine (KA.out _ HF1.out).mono ?_
  rintro e w2 ⟨rfl, hf⟩
  have F := Lib.hid (F.out.trans hf); obtain ⟨z1_0, z1_1, z1_2⟩ := (HZ1.out _ F.out).c3
  go_wp2_with fail
  refine (KP.out _ (HF1.out.trans F.out)).mono ?_
  rintro e w3 ⟨rfl, hf⟩
  have F := Lib.hid (F.out.trans hf); obtain ⟨z1_0, z1_1, z1_2⟩ := (HZ1.out _ F.out).c3
  go_wp2_with fail
  refine (HBY.out _).mono ?_
  rintro e w4 ⟨v, rfl, hf, hsl⟩
  have SL := Lib.hid hsl
  have F := Lib.hid (F.out.trans hf); obtain ⟨z1_0, z1_1, z1_2⟩ := (HZ1.out _ F.out).c3
  go_wp2_with fail
  refine (kv _).mono ?_
  rintro e w5 ⟨rfl, hf⟩
  have SL5 := Lib.hid (SL.out.fr hf)
  clear SL hsl
  have F := Lib.hid (F.out.trans hf); obtain ⟨z1_0, z1_1, z1_2⟩ := (HZ1.out _ F.out).c3
  go_wp2_with fail
  refine (KQ.out _ (HF1.out.trans F.out)).mono ?_
  rintro e w6 ⟨rfl, hf⟩
  have SL6 := Lib.hid (SL5.out.fr hf)
  clear SL5
  have F := Lib.hid (F.out.trans hf); obtain ⟨z1_0, z1_1, z1_2⟩ := (HZ1.out _ F.out).c3
  go_wp2_with fail
  have F7 := Lib.hid (Fr.alloc (Fr.refl N0 w6) (.cells #[.bool s, .int .u64 (h : Int), .int .u64 (l : Int)] 25))
  have B7 := Lib.hid (Blk.new w6 25 #[.bool s, .int .u64 (h : Int), .int .u64 (l : Int)])
  have SL7 := Lib.hid (SL6.out.fr F7.out)
  have F7b := Lib.hid (F.out.trans F7.out)
  clear SL6 hf
  generalize w6.alloc _ = w7 at *
  generalize w6.heap.size = g7 at *
  refine (KO.out _ _ SL7.out).mono ?_
  rintro e w8 ⟨rfl, hf⟩
  obtain ⟨A, c, rfl, _⟩ := SL7.out
  have F9 := Lib.hid ((F7b.out.trans hf).alloc (.cells #[.bool s, .int .u64 (h : Int), .int .u64 (l : Int)] 25))
  obtain ⟨a0, a1, a2⟩ := ((B7.out.fr hf id).alloc (.cells #[.bool s, .int .u64 (h : Int), .int .u64 (l : Int)] 25)).c3
  obtain ⟨b0, b1, b2⟩ := (Blk.new w8 25 #[.bool s, .int .u64 (h : Int), .int .u64 (l : Int)]).c3
  obtain ⟨y0, y1, y2⟩ := (HZ1.out _ F9.out).c3
  have HF9 := Lib.hid (HF1.out.trans F9.out)
  have hs2 := HS.out
  clear hf z1_0 z1_1 z1_2
  go_wp2_with fail
  go_ret
  exact ⟨rfl, HF9.out⟩
theorem abk_walk (W : World) (hS : W.ShapedOpen Tryd.prog) (ht : T10 W ∧ D4 W ∧ Sy W) (A : Array Value) (ra : Rd Tryd.prog W 25 A.toList) :
    Calls Tryd.prog 5 #[.agg A] W fun e w' => e = .returned (.bool true) ∧ Below W.heap.size W w' := by
  obtain ⟨p, ep, hp⟩ := rd_ad ra
  rw [ad_arr ep]
  obtain ⟨m, hm⟩ := mx_of hS
  cases hv : validA p with
  | false => exact (abk_no W p hp hv m hm ht.1 ht.2.1 ht.2.2).mono fun e w' ⟨he, hf⟩ => ⟨he, hf.below (Nat.le_refl _) fun _ _ h => h.elim⟩
  | true => exact (abk_yes W p hp hv m hm ht.1 ht.2.1 ht.2.2).mono fun e w' ⟨he, hf⟩ => ⟨he, hf.below (Nat.le_refl _) fun _ _ h => h.elim⟩
end Go.Proofs.YtejddfgmfdpnfaaDoor
