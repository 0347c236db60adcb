/- append(s, make([]int, m)...): an owned slice of ints, so many noughts behind it. The document's Parse of any text that is not too long: four numbers; a text that is none. The document's Parse of groups. The document's Parse reads any text as addr.Parse does. -/
import Derived.Test.YtcameghlkplgfaaGreatDoorOwn
import Derived.Test.YtcameghlkplgfaaGreatDoorOf
import Derived.Maps.AppendAt
import Derived.Test.YtcameghlkplgfaaGreatDoorQc
import Derived.Test.YtcameghlkplgfaaGreatDoorQb
namespace Go.Proofs.YtcameghlkplgfaaGreatDoor
open Go.Proofs Go.RowKit Go
theorem zeroCells_one (z : Value) (m : Nat) : Builtin.zeroCells #[z] m = (List.replicate m z).toArray := by
  apply Array.ext
  · simp [Builtin.zeroCells]
  · intro i h1 h2
    simp [Builtin.zeroCells, Nat.mod_one]
section
variable {P : Program} (w : World)
theorem run_app0_nil (t tx ty e : TypeId) (i : TypeInfo) (z : Value) (ht : P.underlying t = some (.slice e)) (hx : P.underlying tx = some (.int .i64)) (hi : P.info? e = some i) (hz : i.zero = some z) (hs1 : i.size = 1) (hb8 : i.bytes = 8) (hz1 : z.cells = #[z])
    (m : Nat) (h0 : 0 < m) (hm : m ≤ 1000000) :
    (Builtin.append_ #[t, tx] ty #[.slice none 0 0, .int .i64 (m : Int)]).run P w =
      .ok (.slice (some ⟨w.heap.size, 0, none⟩) m (grownCap w m 0 e)) (w.drew.alloc (.cells ((List.replicate m z).toArray ++ Builtin.zeroCells #[z] (grownCap w m 0 e - m)) e)) := by
  have hwr : IntKind.i64.wrap (m : Int) = (m : Int) := IntWalk.i64_in _ (by omega)
  have h1 : ¬ ((m : Int) < 0) := by omega
  have h2 : ¬ ((281474976710656 : Int) < (m : Int) * 8) := by omega
  have hn : m ≠ 0 := by omega
  have h63' : ¬ (9223372036854775807 < (m : Int)) := by omega
  have h48' : ¬ (281474976710656 < Builtin.nextslicecap m 0 * 8) := by rw [nextslicecap_zero h0]; omega
  have hzc := zeroCells_one z
  have hai : ∀ W, (asIntOf (Value.int IntKind.i64 (m : Int))).run P W = .ok (IntKind.i64, (m : Int)) W := fun _ => rfl
  simp [Builtin.append_, run_underlying ht, run_underlying hx, sizeOf, typeInfo, zeroValue, hi, hz, hs1, hb8, hz1, hwr, h1, h2, hn, h63', h48', Question.forced, run_firstCells_none, newRow, grownCap, asInt, hai, hzc]
theorem run_app0_grow (t tx ty e : TypeId) (i : TypeInfo) (z : Value) (ht : P.underlying t = some (.slice e)) (hx : P.underlying tx = some (.int .i64)) (hi : P.info? e = some i) (hz : i.zero = some z) (hs1 : i.size = 1) (hb8 : i.bytes = 8) (hz1 : z.cells = #[z])
    (b : Addr) (sLen sCap : Nat) (olds : List Value) (hlo : olds.length = sLen * i.size) (holds : ∀ j v, olds[j]? = some v → w.cell? (b.add j) = some v)
    (m : Nat) (h0 : 0 < m) (hm : m ≤ 1000000) (hg : sCap < sLen + m) (hl6 : sLen ≤ 1000000) :
    (Builtin.append_ #[t, tx] ty #[.slice (some b) sLen sCap, .int .i64 (m : Int)]).run P w =
      .ok (.slice (some ⟨w.heap.size, 0, none⟩) (sLen + m) (grownCap w (sLen + m) sCap e))
        (w.drew.alloc (.cells (olds.toArray ++ (List.replicate m z).toArray ++ Builtin.zeroCells #[z] (grownCap w (sLen + m) sCap e - (sLen + m))) e)) := by
  have hwr : IntKind.i64.wrap (m : Int) = (m : Int) := IntWalk.i64_in _ (by omega)
  have h1 : ¬ ((m : Int) < 0) := by omega
  have h2 : ¬ ((281474976710656 : Int) < (m : Int) * 8) := by omega
  have hm0 : m ≠ 0 := by omega
  have hn : ¬ (sLen + m ≤ sCap) := by omega
  have h63' : ¬ (9223372036854775807 < ((sLen : Int) + (m : Int))) := by omega
  have h48' : ¬ (281474976710656 < Builtin.nextslicecap (sLen + m) sCap * 8) := by have := growslice_fits (bytes := 8) hg (by omega); omega
  have hzc := zeroCells_one z
  have hai : ∀ W, (asIntOf (Value.int IntKind.i64 (m : Int))).run P W = .ok (IntKind.i64, (m : Int)) W := fun _ => rfl
  have hfo := run_firstCells_some (P := P) w.drew i.size sLen b sLen sCap olds hlo (by simpa using holds)
  rw [hs1] at hfo
  simp [Builtin.append_, run_underlying ht, run_underlying hx, sizeOf, typeInfo, zeroValue, hi, hz, hs1, hb8, hz1, hwr, h1, h2, hm0, hn, h63', h48', Question.forced, hfo, newRow, grownCap, asInt, hai, hzc]
theorem run_app0_room (t tx ty e : TypeId) (i : TypeInfo) (z : Value) (ht : P.underlying t = some (.slice e)) (hx : P.underlying tx = some (.int .i64)) (hi : P.info? e = some i) (hz : i.zero = some z) (hs1 : i.size = 1) (hb8 : i.bytes = 8) (hz1 : z.cells = #[z]) (hzo : z.oneCell' = true)
    (g sLen sCap : Nat) (cur : Array Value) (hg : w.heap[g]? = some (.cells cur e (0, 0))) (m : Nat) (h0 : 0 < m) (hm : m ≤ 1000000) (hroom : sLen + m ≤ sCap) (hfit : sLen + m ≤ cur.size) :
    (Builtin.append_ #[t, tx] ty #[.slice (some ⟨g, 0, none⟩) sLen sCap, .int .i64 (m : Int)]).run P w =
      .ok (.slice (some ⟨g, 0, none⟩) (sLen + m) sCap) (w.setRow g (cur.toList.take sLen ++ List.replicate m z ++ cur.toList.drop (sLen + m)).toArray) := by
  have hwr : IntKind.i64.wrap (m : Int) = (m : Int) := IntWalk.i64_in _ (by omega)
  have h1 : ¬ ((m : Int) < 0) := by omega
  have h2 : ¬ ((281474976710656 : Int) < (m : Int) * 8) := by omega
  have hm0 : m ≠ 0 := by omega
  have hzc := zeroCells_one z
  have hai : ∀ W, (asIntOf (Value.int IntKind.i64 (m : Int))).run P W = .ok (IntKind.i64, (m : Int)) W := fun _ => rfl
  have hst := run_storeCells_at P g sLen e (List.replicate m z) 0 cur w hg (by simpa using hfit) (fun u hu => by rw [List.eq_of_mem_replicate hu]; exact hzo)
  simp only [Nat.add_zero, List.length_replicate] at hst
  simp [Builtin.append_, run_underlying ht, run_underlying hx, sizeOf, typeInfo, zeroValue, hi, hz, hs1, hb8, hz1, hwr, h1, h2, hm0, hroom, asInt, hai, hzc, Addr.add_lit, hst]
theorem wpList_append0s {ops : Array Oper} {rest : List Oper} {o : Oper} {a : Act} {Q : Exit → Act → World → Prop} (hgd : o.guard = none) (s x : Operand) (t tx : TypeId)
    (ho : o.op = .call { callee := .builtin .append, args := #[s, x], argTypes := #[t, tx] })
    (e : TypeId) (i : TypeInfo) (z : Value) (ht : P.underlying t = some (.slice e)) (hxt : P.underlying tx = some (.int .i64)) (hi : P.info? e = some i) (hz : i.zero = some z) (hs1 : i.size = 1) (hb8 : i.bytes = 8) (hz1 : z.cells = #[z]) (hzo : z.oneCell' = true)
    (A : Option Addr) (n c : Nat) (xs : List Value) (hs : a.eval s = .slice A n c) (hown : Own w e 1 A n c xs) (m : Nat) (hx : a.eval x = .int .i64 (m : Int)) (h0 : 0 < m) (hm : m ≤ 1000000) (hn : n ≤ 1000000)
    (h : ∀ g' c' w', Own w' e 1 (some ⟨g', 0, none⟩) (n + m) c' (xs ++ List.replicate m z) → Fr (fun i => A = some ⟨i, 0, none⟩) w w' → (A = some ⟨g', 0, none⟩ ∨ w.heap.size ≤ g') → wpList P ops Q rest (a.put o.dst (.slice (some ⟨g', 0, none⟩) (n + m) c')) w') :
    wpList P ops Q (o :: rest) a w := by
  have fin : ∀ v w', (Builtin.append_ #[t, tx] o.type #[.slice A n c, .int .i64 (m : Int)]).run P w = .ok v w' → wpList P ops Q rest (a.put o.dst v) w' → wpList P ops Q (o :: rest) a w := by
    intro v w' hr hk
    refine wpList_plain hgd fun K hK => ?_
    unfold Oper.wp execOp
    simp only [ho, resolve, invoke, builtin, Sem.run_bind, Sem.run_pure, Result.andThen_ok, List.map_toArray, List.map_cons, List.map_nil, hs, hx, hr]
    exact hK _ _ hk
  have grown : ∀ (old : Nat), old < n + m → Own (w.drew.alloc (.cells (xs.toArray ++ (List.replicate m z).toArray ++ Builtin.zeroCells #[z] (grownCap w (n + m) old e - (n + m))) e)) e 1 (some ⟨w.heap.size, 0, none⟩) (n + m) (grownCap w (n + m) old e) (xs ++ List.replicate m z) := by
    intro old ho
    have hge := grownCap_ge w (n + m) old e
    have hcm : grownCap w (n + m) old e ≤ maxLen := grownCap_le_maxLen w (n + m) old e (by unfold maxLen; omega)
    have hxl : xs.length = n := by have := hown.1; omega
    refine Own.of_row (base := 0) ⟨by simp [hxl], .inr ⟨w.heap.size, _, _, rfl, Nat.zero_le _, heap_alloc_new w.drew _, hge, hcm, ?_, ?_⟩⟩
    · simp only [Array.size_append, List.size_toArray, size_zeroCells, hxl, List.length_replicate]
      simp
      omega
    · simp only [Array.toList_append, List.append_assoc]
      rw [← List.append_assoc, show (n + m) * 1 = (xs ++ List.replicate m z).length by simp [hxl]]
      exact List.take_left
  rcases hown.2 with ⟨rfl, rfl, rfl⟩ | ⟨g, cur, rfl, hg, hnc, hcm, hcs, htake⟩
  · have hx0 : xs = [] := List.eq_nil_of_length_eq_zero (by have := hown.1; omega)
    subst hx0
    refine fin _ _ (run_app0_nil w t tx o.type e i z ht hxt hi hz hs1 hb8 hz1 m h0 hm) ?_
    have := grown 0 (by omega)
    simp only [Nat.zero_add, List.nil_append, Array.empty_append] at this h
    exact h _ _ _ this ((Fr.refl _ w).drew.alloc _) (.inr (Nat.le_refl _))
  · by_cases hroom : n + m ≤ c
    · have hxl : xs.length = n := by have := hown.1; omega
      refine fin _ _ (run_app0_room w t tx o.type e i z ht hxt hi hz hs1 hb8 hz1 hzo g n c cur hg m h0 hm hroom (by omega)) ?_
      have hb : Blk (w.setRow g (cur.toList.take n ++ List.replicate m z ++ cur.toList.drop (n + m)).toArray) g e (cur.toList.take n ++ List.replicate m z ++ cur.toList.drop (n + m)).toArray := setRow_heap w g cur _ e _ hg
      refine h g c _ ⟨by simp [hxl], .inr ⟨g, _, rfl, hb, hroom, hcm, ?_, ?_⟩⟩ (Fr.setRow (S := fun i => some (⟨g, 0, none⟩ : Addr) = some ⟨i, 0, none⟩) (Fr.refl _ w) (.inl rfl) _) (.inl rfl)
      · simp
        omega
      · have e1 : cur.toList.take n = xs := by rw [← htake, Nat.mul_one]
        rw [e1]
        simp only []
        rw [show (n + m) * 1 = (xs ++ List.replicate m z).length by simp [hxl]]
        exact List.take_left
    · have holds : ∀ j u, xs[j]? = some u → w.cell? ((⟨g, 0, none⟩ : Addr).add j) = some u := hown.row.cells (g := g) rfl
      have hr := run_app0_grow w t tx o.type e i z ht hxt hi hz hs1 hb8 hz1 ⟨g, 0, none⟩ n c xs (by rw [hs1]; exact hown.1) holds m h0 hm (by omega) hn
      exact fin _ _ hr (h _ _ _ (grown c (by omega)) ((Fr.refl _ w).drew.alloc _) (.inr (Nat.le_refl _)))
end
end Go.Proofs.YtcameghlkplgfaaGreatDoor
namespace Go.Proofs.YtcameghlkplgfaaGreatDoor
open Go.Proofs Go.Shelf Go.RowKit
/-- How far four numbers are read. -/
def FoR (ts : List (List UInt8)) (j lo : Nat) : Prop := ts.length = 4 ∧ j ≤ 4 ∧ ∃ us, octs (ts.take j) = some us ∧ lo = acc us ∧ lo < 256 ^ j
theorem FoR.start {ts : List (List UInt8)} (h : ts.length = 4) : FoR ts 0 0 := ⟨h, by omega, [], rfl, rfl, by omega⟩
theorem FoR.step {ts : List (List UInt8)} {j lo u : Nat} {t : List UInt8} (h : FoR ts j lo) (hj : j < 4) (ht : ts[j]? = some t) (hu : octP t = some u) : FoR ts (j + 1) (lo * 256 + u) := by
  obtain ⟨h4, _, us, h1, rfl, h3⟩ := h
  obtain ⟨q1, q2⟩ := List.getElem?_eq_some_iff.1 ht
  have h256 := octP_lt hu
  refine ⟨h4, by omega, us ++ [u], ?_, (acc_snoc _ _).symm, by rw [Nat.pow_succ]; omega⟩
  rw [List.take_succ_eq_append_getElem q1, q2, octs_snoc, h1, hu]
theorem FoR.done {ts : List (List UInt8)} {lo : Nat} (h : FoR ts 4 lo) : fourP ts = some lo := by
  obtain ⟨h4, _, us, h1, rfl, _⟩ := h
  unfold fourP
  rw [List.take_of_length_le (by omega)] at h1
  rw [if_pos h4, h1]
  rfl
theorem FoR.lt {ts : List (List UInt8)} {j lo : Nat} (h : FoR ts j lo) : lo < 4294967296 := by
  obtain ⟨_, hj, _, _, _, h⟩ := h
  have := Nat.pow_le_pow_right (n := 256) (by omega) hj
  omega
section
variable {w : World}
theorem rspl46 (s : ByteArray) (hs : s.size ≤ 4294967295) : Calls Tryz.prog 37 #[.string s, .int .u8 46] w fun e w' => ∃ v, e = .returned v ∧ Sx w w' v (cutL 46 s.data.toList) :=
  rspl (w := w) s 46 (by omega)
set_option maxHeartbeats 6400000 in
set_option maxRecDepth 100000 in
theorem rpar_four (s : ByteArray) (hs : s.size ≤ 1048576) (lo : Nat) (hf : fourP (cutL 46 s.data.toList) = some lo) : Calls Tryz.prog 21 #[.string s] w fun e w' => e = .returned (.tuple #[adV ⟨false, 0, lo⟩, .int .i64 0]) ∧ Fr N0 w w' := by
  have ks := fun (W : World) => rspl46 (w := W) s (by omega)
  obtain ⟨ts, hts⟩ : ∃ ts, ts = cutL 46 s.data.toList := ⟨_, rfl⟩
  rw [← hts] at hf ks
  have h4 : ts.length = 4 := by
    unfold fourP at hf
    split at hf
    · assumption
    · cases hf
  have HF := Lib.hid hf
  have HS := Lib.hid (FoR.start h4)
  have H4 := Lib.hid h4
  clear hts hf h4
  go_enter Tryz.func21, Tryz.ntmps21
  go_wp2_with fail
  have HA1 := Lib.hid (Blk.new w 24 #[Value.bool false, Value.int .u64 0, Value.int .u64 0])
  have HF1 := Lib.hid (Fr.alloc (Fr.refl N0 w) (.cells #[Value.bool false, Value.int .u64 0, Value.int .u64 0] 24))
  generalize w.alloc _ = w1 at *
  obtain ⟨g1, hg1⟩ : ∃ g1, g1 = w.heap.size := ⟨_, rfl⟩
  rw [← hg1] at HA1 ⊢
  have HG1 : Hid (w.heap.size ≤ g1) := Lib.hid (by omega)
  clear hg1
  have HZ1 : Hid (∀ W, Fr N0 w1 W → Blk W g1 24 #[Value.bool false, Value.int .u64 0, Value.int .u64 0]) := Lib.hid fun W hf => HA1.out.fr hf id
  have F := Lib.hid (Fr.refl N0 w1)
  refine (ks _).mono ?_
  rintro e w3 ⟨v, rfl, A, c, rfl, hO, hg, hf⟩
  rw [H4.out] at hO ⊢
  obtain ⟨gb, cur, rfl, hbB, hcell⟩ := own_strB hO (by omega)
  have HCL := Lib.hid hcell
  have B3 := Lib.hid (HZ1.out _ hf)
  have HF3 := Lib.hid (HF1.out.trans hf)
  have HBB := Lib.hid hbB
  have NE := Lib.hid (show g1 ≠ gb from fun e => by
    subst e
    have h1 := (HZ1.out _ hf).ne_ hbB (by decide)
    exact h1 rfl)
  clear hO hg hf hcell hbB ks F
  go_wp2_with fail
  have FA := Lib.hid (HF3.out.alloc (.cells #[.bool false, .int .u64 0, .int .u64 0] 24))
  have BA := Lib.hid (Blk.new w3 24 #[.bool false, .int .u64 0, .int .u64 0])
  have B4 := Lib.hid (B3.out.alloc (.cells #[.bool false, .int .u64 0, .int .u64 0] 24))
  have BB4 := Lib.hid (HBB.out.alloc (.cells #[.bool false, .int .u64 0, .int .u64 0] 24))
  have N5 := Lib.hid (show w3.heap.size ≠ g1 from by have := B3.out.lt; omega)
  have N6 := Lib.hid (show w3.heap.size ≠ gb from by have := HBB.out.lt; omega)
  have G5 := Lib.hid (show w.heap.size ≤ w3.heap.size from HF3.out.size)
  clear B3 HBB HF3 HZ1 HA1
  generalize w3.alloc _ = w4 at *
  generalize w3.heap.size = g5 at *
  go_loopw [6, 7] (fun f i wr => ∃ (j lo' : Nat), f = .bool true ∧ i = .int .i64 (j : Int) ∧ Hid (FoR ts j lo') ∧ Blk wr g5 24 #[.bool false, .int .u64 0, .int .u64 (lo' : Int)] ∧ Blk wr gb 9 cur ∧ Blk wr g1 24 #[.bool false, .int .u64 0, .int .u64 0] ∧ Fr N0 w wr) (fun _ i _ => 5 - (intOf i).toNat)
  case atStart => exact ⟨0, 0, by first | rfl | (simp [H4.out]), rfl, HS, BA.out, BB4.out, B4.out, FA.out⟩
  case round =>
    obtain ⟨j, lo', rfl, rfl, hR, hA, hB, h1, hF⟩ := hrel
    have BA := Lib.hid hA
    have BB := Lib.hid hB
    have B1 := Lib.hid h1
    have F := Lib.hid hF
    have hlo := hR.out.lt
    have hj4 : j ≤ 4 := hR.out.2.1
    clear hA hB h1 hF
    by_cases hjn : j < 4
    · have hjI : (j : Int) < 4 := by omega
      obtain ⟨t, ht⟩ : ∃ t, ts[j]? = some t := ⟨ts[j]'(by rw [H4.out]; exact hjn), List.getElem?_eq_getElem _⟩
      have y0 := (BB.out.cell j).trans (HCL.out _ _ ht)
      have kg := fun (W : World) => rdec (w := W) (bA t)
      rw [bA_list] at kg
      cases hu : octP t with
      | none =>
        exfalso
        have hn := octs_none ts j t ht hu
        have hf := HF.out
        unfold fourP at hf
        rw [hn] at hf
        split at hf <;> cases hf
      | some u =>
        rw [hu] at kg
        have HST := Lib.hid (hR.out.step hjn ht hu)
        have hu256 := octP_lt hu
        obtain ⟨z0, z1, z2⟩ := BA.out.c3
        have zf := BA.out.frozen 2
        have HX := Lib.hid (BA.out.set_ 2 (.int .u64 ((lo' * 256 + u : Nat) : Int)))
        have HBB := Lib.hid (BB.out.far (p := ⟨g5, 2, none⟩) (fun e => N6.out e.symm) (.int .u64 ((lo' * 256 + u : Nat) : Int)))
        have HB1 := Lib.hid (B1.out.far (p := ⟨g5, 2, none⟩) (fun e => N5.out e.symm) (.int .u64 ((lo' * 256 + u : Nat) : Int)))
        have HFF := Lib.hid (F.out.setCell (p := ⟨g5, 2, none⟩) (.inr G5.out) (.int .u64 ((lo' * 256 + u : Nat) : Int)))
        have hval : ((lo' * 256 + u : Nat) : Int) = (lo' : Int) * 256 + (u : Int) := by omega
        rw [hval] at HX HBB HB1 HFF
        have hu0 : (0 : Int) ≤ (u : Int) := by omega
        have hmx : max (u : Int) 0 = (u : Int) := by omega
        unfold oI at kg
        clear ht hu hval hR
        go_wp2_with (go_at_call 38; refine (kg _).mono ?_; rintro e w5 ⟨rfl, rfl⟩)
        go_roundw
        case rel => exact ⟨j + 1, lo' * 256 + u, rfl, by go_num, HST, by simpa using HX.out, HBB.out, HB1.out, HFF.out⟩
        case measure => first | (simp [intOf]; done) | (simp [intOf]; omega)
    · obtain rfl : j = 4 := by omega
      have hd := hR.out.done
      rw [HF.out] at hd
      cases hd
      obtain ⟨z0, z1, z2⟩ := BA.out.c3
      go_wp2_with (refine wpList_store_row rfl 24 _ _ rfl g1 _ rfl rfl _ _ B1.out rfl rfl (by simp [Value.oneCell']) ?_)
      refine ret_cell2 rfl rfl (B1.out.row _) Tryz.underlying24 rfl ⟨rfl, Fr.setRow F.out (.inr HG1.out) _⟩
set_option maxHeartbeats 6400000 in
set_option maxRecDepth 100000 in
theorem rpar_bad (s : ByteArray) (hs : s.size ≤ 1048576) (hf : fourP (cutL 46 s.data.toList) = none) (N : Nat) (at_ : Int) (ok : Bool) (hbad : ok = false ∨ (ok = true ∧ at_ = -1 ∧ ((N : Int) != 8) = true) ∨ (ok = true ∧ 0 ≤ at_ ∧ 7 < (N : Int)))
    (k6 : ∀ W : World, Calls Tryz.prog 39 #[.string s] W fun e w' => ∃ A c, e = .returned (.tuple #[.slice A N c, .int .i64 at_, .bool ok]) ∧ Fr N0 W w') :
    Calls Tryz.prog 21 #[.string s] w fun e w' => e = .returned (.tuple #[adV ⟨false, 0, 0⟩, .int .i64 20]) ∧ Fr N0 w w' := by
  have ks := fun (W : World) => rspl46 (w := W) s (by omega)
  obtain ⟨ts, hts⟩ : ∃ ts, ts = cutL 46 s.data.toList := ⟨_, rfl⟩
  have hpos : 0 < ts.length := by
    obtain ⟨t, r, e⟩ := cutL_ne 46 s.data.toList
    rw [hts, e]
    simp
  rw [← hts] at hf ks
  have HF := Lib.hid hf
  obtain ⟨n, hn⟩ : ∃ n, n = ts.length := ⟨_, rfl⟩
  have HN := Lib.hid hn
  have hnb : n = 4 ∨ ((n : Int) == 4) = false := by
    by_cases h : n = 4
    · exact .inl h
    · exact .inr (by simp; omega)
  rw [← hn] at hpos
  clear hts hf hn
  go_enter Tryz.func21, Tryz.ntmps21
  go_wp2_with fail
  have HA1 := Lib.hid (Blk.new w 24 #[Value.bool false, Value.int .u64 0, Value.int .u64 0])
  have HF1 := Lib.hid (Fr.alloc (Fr.refl N0 w) (.cells #[Value.bool false, Value.int .u64 0, Value.int .u64 0] 24))
  generalize w.alloc _ = w1 at *
  obtain ⟨g1, hg1⟩ : ∃ g1, g1 = w.heap.size := ⟨_, rfl⟩
  rw [← hg1] at HA1 ⊢
  have HG1 : Hid (w.heap.size ≤ g1) := Lib.hid (by omega)
  clear hg1
  have HZ1 : Hid (∀ W, Fr N0 w1 W → Blk W g1 24 #[Value.bool false, Value.int .u64 0, Value.int .u64 0]) := Lib.hid fun W hf => HA1.out.fr hf id
  have F := Lib.hid (Fr.refl N0 w1)
  refine (ks _).mono ?_
  rintro e w3 ⟨v, rfl, A, c, rfl, hO, hg, hf⟩
  rw [← HN.out] at hO ⊢
  obtain ⟨gb, cur, rfl, hbB, hcell⟩ := own_strB hO hpos
  have HCL := Lib.hid hcell
  have B3 := Lib.hid (HZ1.out _ hf)
  have HF3 := Lib.hid (HF1.out.trans hf)
  have HBB := Lib.hid hbB
  clear hO hg hf hcell hbB ks F
  go_wp2_with fail
  have FA := Lib.hid (HF3.out.alloc (.cells #[.bool false, .int .u64 0, .int .u64 0] 24))
  have BA := Lib.hid (Blk.new w3 24 #[.bool false, .int .u64 0, .int .u64 0])
  have B4 := Lib.hid (B3.out.alloc (.cells #[.bool false, .int .u64 0, .int .u64 0] 24))
  have BB4 := Lib.hid (HBB.out.alloc (.cells #[.bool false, .int .u64 0, .int .u64 0] 24))
  have N5 := Lib.hid (show w3.heap.size ≠ g1 from by have := B3.out.lt; omega)
  have N6 := Lib.hid (show w3.heap.size ≠ gb from by have := HBB.out.lt; omega)
  have G5 := Lib.hid (show w.heap.size ≤ w3.heap.size from HF3.out.size)
  clear B3 HBB HF3 HZ1 HA1
  generalize w3.alloc _ = w4 at *
  generalize w3.heap.size = g5 at *
  go_loopw [6, 7] (fun f i wr => ∃ (j : Nat) (X : Int), ((f = .bool true ∧ n = 4 ∧ ∃ lo' : Nat, X = (lo' : Int) ∧ Hid (FoR ts j lo')) ∨ f = .bool false) ∧ i = .int .i64 (j : Int) ∧ j ≤ 5 ∧ Blk wr g5 24 #[.bool false, .int .u64 0, .int .u64 X] ∧ Blk wr gb 9 cur ∧ Blk wr g1 24 #[.bool false, .int .u64 0, .int .u64 0] ∧ Fr N0 w wr) (fun _ i _ => 6 - (intOf i).toNat)
  case atStart =>
    rcases hnb with h4 | h4
    · subst h4
      exact ⟨0, 0, .inl ⟨rfl, rfl, 0, rfl, Lib.hid (FoR.start HN.out.symm)⟩, rfl, by omega, BA.out, BB4.out, B4.out, FA.out⟩
    · refine ⟨0, 0, .inr ?_, rfl, by omega, BA.out, BB4.out, B4.out, FA.out⟩
      first | rfl | (simp only [h4]) | (simp at h4 ⊢; omega)
  case round =>
    obtain ⟨j, X, hf, rfl, hj5, hA, hB, h1, hF⟩ := hrel
    have BA := Lib.hid hA
    have BB := Lib.hid hB
    have B1 := Lib.hid h1
    have F := Lib.hid hF
    clear hA hB h1 hF hnb
    rcases hf with ⟨rfl, hn4, lo', rfl, hR⟩ | rfl
    · subst hn4
      have hlo := hR.out.lt
      have hj4 : j ≤ 4 := hR.out.2.1
      by_cases hjn : j < 4
      · have hjI : (j : Int) < 4 := by omega
        obtain ⟨t, ht⟩ : ∃ t, ts[j]? = some t := ⟨ts[j]'(by rw [← HN.out]; exact hjn), List.getElem?_eq_getElem _⟩
        have y0 := (BB.out.cell j).trans (HCL.out _ _ ht)
        have kg := fun (W : World) => rdec (w := W) (bA t)
        rw [bA_list] at kg
        obtain ⟨z0, z1, z2⟩ := BA.out.c3
        have zf := BA.out.frozen 2
        have key : ∃ (q : Int) (u : Nat) (b : Bool), oI (octP t) = q ∧ u < 256 ∧ max q 0 = (u : Int) ∧ decide (q ≥ 0) = b ∧ (b = true → Hid (FoR ts (j + 1) (lo' * 256 + u))) := by
          cases hu : octP t with
          | none => exact ⟨-1, 0, false, rfl, by omega, by omega, rfl, nofun⟩
          | some u => exact ⟨(u : Int), u, true, rfl, octP_lt hu, by omega, by simp, fun _ => Lib.hid (hR.out.step hjn ht hu)⟩
        obtain ⟨q, u, b, hq, hu256, hmx, hqb, hst⟩ := key
        rw [hq] at kg
        have hqs : (b = true ∧ 0 ≤ q) ∨ (b = false ∧ q < 0) := by
          cases b
          · right; exact ⟨rfl, by simpa using hqb⟩
          · left; exact ⟨rfl, by simpa using hqb⟩
        have HX := Lib.hid (BA.out.set_ 2 (.int .u64 ((lo' : Int) * 256 + (u : Int))))
        have HBB := Lib.hid (BB.out.far (p := ⟨g5, 2, none⟩) (fun e => N6.out e.symm) (.int .u64 ((lo' : Int) * 256 + (u : Int))))
        have HB1 := Lib.hid (B1.out.far (p := ⟨g5, 2, none⟩) (fun e => N5.out e.symm) (.int .u64 ((lo' : Int) * 256 + (u : Int))))
        have HFF := Lib.hid (F.out.setCell (p := ⟨g5, 2, none⟩) (.inr G5.out) (.int .u64 ((lo' : Int) * 256 + (u : Int))))
        have HQ := Lib.hid hst
        clear ht hR hq hqb hst
        rcases hqs with ⟨rfl, hq⟩ | ⟨rfl, hq⟩
        · obtain rfl : q = (u : Int) := by omega
          clear hmx
          have hmx : max (u : Int) 0 = (u : Int) := by omega
          go_wp2_with (go_at_call 38; refine (kg _).mono ?_; rintro e w5 ⟨rfl, rfl⟩)
          go_roundw
          case rel => first | exact ⟨j + 1, ((lo' * 256 + u : Nat) : Int), .inl ⟨by trivial, by trivial, _, rfl, HQ.out (by trivial)⟩, by go_num, by omega, by simpa using HX.out, HBB.out, HB1.out, HFF.out⟩ | ((repeat apply Exists.intro); exact ⟨⟨j + 1, ((lo' * 256 + u : Nat) : Int), .inl ⟨by trivial, by trivial, _, rfl, HQ.out (by trivial)⟩, by go_num, by omega, by simpa using HX.out, HBB.out, HB1.out, HFF.out⟩, rfl⟩)
          case measure => first | (simp [intOf]; done) | (simp [intOf]; omega)
        · obtain rfl : u = 0 := by omega
          have hqn : ¬ (0 ≤ q) := by omega
          have hmx2 : max q 0 = 0 := hmx
          clear hmx
          go_wp2_with (go_at_call 38; refine (kg _).mono ?_; rintro e w5 ⟨rfl, rfl⟩)
          go_roundw
          case rel => first | exact ⟨j + 1, (lo' : Int) * 256, .inr (by first | trivial | (simp; omega)), by go_num, by omega, by simpa using HX.out, by simpa using HBB.out, by simpa using HB1.out, by simpa using HFF.out⟩ | ((repeat apply Exists.intro); exact ⟨⟨j + 1, (lo' : Int) * 256, .inr (by first | trivial | (simp; omega)), by go_num, by omega, by simpa using HX.out, by simpa using HBB.out, by simpa using HB1.out, by simpa using HFF.out⟩, rfl⟩)
          case measure => first | (simp [intOf]; done) | (simp [intOf]; omega)
      · exfalso
        obtain rfl : j = 4 := by omega
        have hd := hR.out.done
        rw [HF.out] at hd
        cases hd
    · clear HCL BB
      go_wp2_with fail
      all_goals
        refine (k6 _).mono ?_
        rintro e w5 ⟨A, c, rfl, hf5⟩
        have B5 := Lib.hid (B1.out.fr hf5 id)
        have F5 := Lib.hid (F.out.trans hf5)
        clear hf5 B1 F
        rcases hbad with rfl | ⟨rfl, rfl, hb⟩ | ⟨rfl, hb1, hb2⟩
        all_goals
          go_wp2_with (refine wpList_store_row rfl 24 _ _ rfl g1 _ rfl rfl _ _ B5.out rfl rfl (by simp [Value.oneCell']) ?_)
          refine ret_cell2 rfl rfl (B5.out.row _) Tryz.underlying24 rfl ⟨rfl, Fr.setRow F5.out (.inr HG1.out) _⟩
end
end Go.Proofs.YtcameghlkplgfaaGreatDoor
namespace Go.Proofs.YtcameghlkplgfaaGreatDoor
open Go.Proofs Go.Shelf Go.RowKit
/-- How the groups of a text are laid out to eight. -/
structure Fill (G : List Nat) (at_ : Int) (ALL : List Nat) (z : Nat) (pre : Nat → List Nat) : Prop where
  n8 : G.length ≤ 8
  hz : z = 8 - G.length
  ok : (at_ = -1 ∧ G.length = 8) ∨ (0 ≤ at_ ∧ at_ ≤ G.length ∧ G.length ≤ 7)
  p0 : pre 0 = []
  sA : ∀ (i u : Nat), G[i]? = some u → (i : Int) = at_ → pre (i + 1) = (pre i ++ List.replicate z 0) ++ [u]
  sB : ∀ (i u : Nat), G[i]? = some u → (i : Int) ≠ at_ → pre (i + 1) = pre i ++ [u]
  fin : ((G.length : Int) = at_ ∧ ALL = pre G.length ++ List.replicate z 0) ∨ ((G.length : Int) ≠ at_ ∧ ALL = pre G.length)
  len : ∀ i, (pre i).length ≤ 8
  all8 : ALL.length = 8
  lt : ∀ u ∈ ALL, u < 65536
theorem own_intB {w : World} {A : Option Addr} {n c : Nat} {bs : List Nat} (h : Own w 3 1 A n c (bs.map i64u)) (hn : 0 < n) : ∃ g cur, A = some ⟨g, 0, none⟩ ∧ Blk w g 3 cur ∧ ∀ (i x : Nat), bs[i]? = some x → cur[i]? = some (.int .i64 (x : Int)) := by
  rcases h.2 with ⟨_, h0, _⟩ | ⟨g, cur, e, hg, _, _, _, ht⟩
  · omega
  · refine ⟨g, cur, e, hg, fun i x hi => ?_⟩
    have h1 : (cur.toList.take (n * 1))[i]? = some (i64u x) := by rw [ht, List.getElem?_map, hi]; rfl
    rw [List.getElem?_take] at h1
    split at h1
    · rw [Array.getElem?_toList] at h1
      exact h1
    · cases h1
theorem Ix.zeros {w wr w' : World} {A : Option Addr} {g' c' n z : Nat} {l : List Nat} (G1 : ∀ g, A = some ⟨g, 0, none⟩ → w.heap.size ≤ g) (F1 : Fr N0 w wr) (hn : l.length = n)
    (hO' : Own w' 3 1 (some ⟨g', 0, none⟩) (n + z) c' (l.map i64u ++ List.replicate z (.int .i64 0))) (hF' : Fr (fun i => A = some ⟨i, 0, none⟩) wr w') (hA' : A = some ⟨g', 0, none⟩ ∨ wr.heap.size ≤ g') :
    Ix w w' (.slice (some ⟨g', 0, none⟩) (n + z) c') (l ++ List.replicate z 0) := by
  refine ⟨some ⟨g', 0, none⟩, c', by rw [List.length_append, hn, List.length_replicate], by rw [List.length_append, hn, List.length_replicate, List.map_append, List.map_replicate]; exact hO', ?_, F1.step hF' fun i hi => .inr (G1 i hi)⟩
  intro g e
  rcases hA' with h | h
  · exact G1 g (h.trans e)
  · injection e with e
    injection e with e
    rw [← e]
    exact Nat.le_trans F1.size h
theorem Ix.open8 {w wr : World} {A : Option Addr} {n c : Nat} {l : List Nat} (h : Ix w wr (.slice A n c) l) (h8 : l.length = 8) : n = 8 ∧ ∃ g cur, A = some ⟨g, 0, none⟩ ∧ Blk wr g 3 cur ∧ (∀ (i x : Nat), l[i]? = some x → cur[i]? = some (.int .i64 (x : Int))) ∧ Fr N0 w wr := by
  obtain ⟨A', c', e, hO, _, hF⟩ := h
  injection e with e1 e2 e3
  subst e1 e3
  obtain ⟨g, cur, h1, h2, h3⟩ := own_intB hO (by omega)
  exact ⟨e2.trans h8, g, cur, h1, h2, h3, hF⟩
section
variable {w : World}
set_option maxHeartbeats 12800000 in
set_option maxRecDepth 100000 in
theorem rpar_six (s : ByteArray) (hs : s.size ≤ 1048576) (hf : fourP (cutL 46 s.data.toList) = none) (G : List Nat) (at_ : Int) (ALL : List Nat) (z : Nat) (pre : Nat → List Nat) (hfill : Fill G at_ ALL z pre)
    (k6 : ∀ W : World, Calls Tryz.prog 39 #[.string s] W fun e w' => ∃ v, e = .returned (.tuple #[v, .int .i64 at_, .bool true]) ∧ Ix W w' v G) :
    Calls Tryz.prog 21 #[.string s] w fun e w' => e = .returned (.tuple #[adV (adG ALL), .int .i64 0]) ∧ Fr N0 w w' := by
  have FL := Lib.hid hfill
  clear hfill
  have HAD : adG ALL = ⟨true, jn (ALL.take 4), jn (ALL.drop 4)⟩ := rfl
  rw [HAD]
  obtain ⟨H0, hH0⟩ : ∃ H0, H0 = jn (ALL.take 4) := ⟨_, rfl⟩
  obtain ⟨L0, hL0⟩ : ∃ L0, L0 = jn (ALL.drop 4) := ⟨_, rfl⟩
  rw [← hH0, ← hL0]
  have HH0 := Lib.hid hH0
  have HL0 := Lib.hid hL0
  clear hH0 hL0 HAD
  have ks := fun (W : World) => rspl46 (w := W) s (by omega)
  obtain ⟨ts, hts⟩ : ∃ ts, ts = cutL 46 s.data.toList := ⟨_, rfl⟩
  have hpos : 0 < ts.length := by
    obtain ⟨t, r, e⟩ := cutL_ne 46 s.data.toList
    rw [hts, e]
    simp
  rw [← hts] at hf ks
  have HF := Lib.hid hf
  obtain ⟨n, hn⟩ : ∃ n, n = ts.length := ⟨_, rfl⟩
  have HN := Lib.hid hn
  have hnb : n = 4 ∨ ((n : Int) == 4) = false := by
    by_cases h : n = 4
    · exact .inl h
    · exact .inr (by simp; omega)
  rw [← hn] at hpos
  clear hts hf hn
  go_enter Tryz.func21, Tryz.ntmps21
  go_wp2_with fail
  have HA1 := Lib.hid (Blk.new w 24 #[Value.bool false, Value.int .u64 0, Value.int .u64 0])
  have HF1 := Lib.hid (Fr.alloc (Fr.refl N0 w) (.cells #[Value.bool false, Value.int .u64 0, Value.int .u64 0] 24))
  generalize w.alloc _ = w1 at *
  obtain ⟨g1, hg1⟩ : ∃ g1, g1 = w.heap.size := ⟨_, rfl⟩
  rw [← hg1] at HA1 ⊢
  have HG1 : Hid (w.heap.size ≤ g1) := Lib.hid (by omega)
  clear hg1
  have HZ1 : Hid (∀ W, Fr N0 w1 W → Blk W g1 24 #[Value.bool false, Value.int .u64 0, Value.int .u64 0]) := Lib.hid fun W hf => HA1.out.fr hf id
  have F := Lib.hid (Fr.refl N0 w1)
  refine (ks _).mono ?_
  rintro e w3 ⟨v, rfl, A, c, rfl, hO, hg, hf⟩
  rw [← HN.out] at hO ⊢
  obtain ⟨gb, cur, rfl, hbB, hcell⟩ := own_strB hO hpos
  have HCL := Lib.hid hcell
  have B3 := Lib.hid (HZ1.out _ hf)
  have HF3 := Lib.hid (HF1.out.trans hf)
  have HBB := Lib.hid hbB
  clear hO hg hf hcell hbB ks F
  go_wp2_with fail
  have FA := Lib.hid (HF3.out.alloc (.cells #[.bool false, .int .u64 0, .int .u64 0] 24))
  have BA := Lib.hid (Blk.new w3 24 #[.bool false, .int .u64 0, .int .u64 0])
  have B4 := Lib.hid (B3.out.alloc (.cells #[.bool false, .int .u64 0, .int .u64 0] 24))
  have BB4 := Lib.hid (HBB.out.alloc (.cells #[.bool false, .int .u64 0, .int .u64 0] 24))
  have N5 := Lib.hid (show w3.heap.size ≠ g1 from by have := B3.out.lt; omega)
  have N6 := Lib.hid (show w3.heap.size ≠ gb from by have := HBB.out.lt; omega)
  have G5 := Lib.hid (show w.heap.size ≤ w3.heap.size from HF3.out.size)
  clear B3 HBB HF3 HZ1 HA1
  generalize w3.alloc _ = w4 at *
  generalize w3.heap.size = g5 at *
  go_loopw [6, 7] (fun f i wr => ∃ (j : Nat) (X : Int), ((f = .bool true ∧ n = 4 ∧ ∃ lo' : Nat, X = (lo' : Int) ∧ Hid (FoR ts j lo')) ∨ f = .bool false) ∧ i = .int .i64 (j : Int) ∧ j ≤ 5 ∧ Blk wr g5 24 #[.bool false, .int .u64 0, .int .u64 X] ∧ Blk wr gb 9 cur ∧ Blk wr g1 24 #[.bool false, .int .u64 0, .int .u64 0] ∧ Fr N0 w wr) (fun _ i _ => 6 - (intOf i).toNat)
  case atStart =>
    rcases hnb with h4 | h4
    · subst h4
      exact ⟨0, 0, .inl ⟨rfl, rfl, 0, rfl, Lib.hid (FoR.start HN.out.symm)⟩, rfl, by omega, BA.out, BB4.out, B4.out, FA.out⟩
    · refine ⟨0, 0, .inr ?_, rfl, by omega, BA.out, BB4.out, B4.out, FA.out⟩
      first | rfl | (simp only [h4]) | (simp at h4 ⊢; omega)
  case round =>
    obtain ⟨j, X, hf, rfl, hj5, hA, hB, h1, hF⟩ := hrel
    have BA := Lib.hid hA
    have BB := Lib.hid hB
    have B1 := Lib.hid h1
    have F := Lib.hid hF
    clear hA hB h1 hF hnb
    rcases hf with ⟨rfl, hn4, lo', rfl, hR⟩ | rfl
    · subst hn4
      have hlo := hR.out.lt
      have hj4 : j ≤ 4 := hR.out.2.1
      by_cases hjn : j < 4
      · have hjI : (j : Int) < 4 := by omega
        obtain ⟨t, ht⟩ : ∃ t, ts[j]? = some t := ⟨ts[j]'(by rw [← HN.out]; exact hjn), List.getElem?_eq_getElem _⟩
        have y0 := (BB.out.cell j).trans (HCL.out _ _ ht)
        have kg := fun (W : World) => rdec (w := W) (bA t)
        rw [bA_list] at kg
        obtain ⟨z0, z1, z2⟩ := BA.out.c3
        have zf := BA.out.frozen 2
        have key : ∃ (q : Int) (u : Nat) (b : Bool), oI (octP t) = q ∧ u < 256 ∧ max q 0 = (u : Int) ∧ decide (q ≥ 0) = b ∧ (b = true → Hid (FoR ts (j + 1) (lo' * 256 + u))) := by
          cases hu : octP t with
          | none => exact ⟨-1, 0, false, rfl, by omega, by omega, rfl, nofun⟩
          | some u => exact ⟨(u : Int), u, true, rfl, octP_lt hu, by omega, by simp, fun _ => Lib.hid (hR.out.step hjn ht hu)⟩
        obtain ⟨q, u, b, hq, hu256, hmx, hqb, hst⟩ := key
        rw [hq] at kg
        have hqs : (b = true ∧ 0 ≤ q) ∨ (b = false ∧ q < 0) := by
          cases b
          · right; exact ⟨rfl, by simpa using hqb⟩
          · left; exact ⟨rfl, by simpa using hqb⟩
        have HX := Lib.hid (BA.out.set_ 2 (.int .u64 ((lo' : Int) * 256 + (u : Int))))
        have HBB := Lib.hid (BB.out.far (p := ⟨g5, 2, none⟩) (fun e => N6.out e.symm) (.int .u64 ((lo' : Int) * 256 + (u : Int))))
        have HB1 := Lib.hid (B1.out.far (p := ⟨g5, 2, none⟩) (fun e => N5.out e.symm) (.int .u64 ((lo' : Int) * 256 + (u : Int))))
        have HFF := Lib.hid (F.out.setCell (p := ⟨g5, 2, none⟩) (.inr G5.out) (.int .u64 ((lo' : Int) * 256 + (u : Int))))
        have HQ := Lib.hid hst
        clear ht hR hq hqb hst
        rcases hqs with ⟨rfl, hq⟩ | ⟨rfl, hq⟩
        · obtain rfl : q = (u : Int) := by omega
          clear hmx
          have hmx : max (u : Int) 0 = (u : Int) := by omega
          go_wp2_with (go_at_call 38; refine (kg _).mono ?_; rintro e w5 ⟨rfl, rfl⟩)
          go_roundw
          case rel => first | exact ⟨j + 1, ((lo' * 256 + u : Nat) : Int), .inl ⟨by trivial, by trivial, _, rfl, HQ.out (by trivial)⟩, by go_num, by omega, by simpa using HX.out, HBB.out, HB1.out, HFF.out⟩ | ((repeat apply Exists.intro); exact ⟨⟨j + 1, ((lo' * 256 + u : Nat) : Int), .inl ⟨by trivial, by trivial, _, rfl, HQ.out (by trivial)⟩, by go_num, by omega, by simpa using HX.out, HBB.out, HB1.out, HFF.out⟩, rfl⟩)
          case measure => first | (simp [intOf]; done) | (simp [intOf]; omega)
        · obtain rfl : u = 0 := by omega
          have hqn : ¬ (0 ≤ q) := by omega
          have hmx2 : max q 0 = 0 := hmx
          clear hmx
          go_wp2_with (go_at_call 38; refine (kg _).mono ?_; rintro e w5 ⟨rfl, rfl⟩)
          go_roundw
          case rel => first | exact ⟨j + 1, (lo' : Int) * 256, .inr (by first | trivial | (simp; omega)), by go_num, by omega, by simpa using HX.out, by simpa using HBB.out, by simpa using HB1.out, by simpa using HFF.out⟩ | ((repeat apply Exists.intro); exact ⟨⟨j + 1, (lo' : Int) * 256, .inr (by first | trivial | (simp; omega)), by go_num, by omega, by simpa using HX.out, by simpa using HBB.out, by simpa using HB1.out, by simpa using HFF.out⟩, rfl⟩)
          case measure => first | (simp [intOf]; done) | (simp [intOf]; omega)
      · exfalso
        obtain rfl : j = 4 := by omega
        have hd := hR.out.done
        rw [HF.out] at hd
        cases hd
    · clear HCL BB
      have hjn : (j : Int) < (n : Int) ∨ ¬ ((j : Int) < (n : Int)) := by omega
      rcases hjn with hjn | hjn
      all_goals
        go_wp2_with fail
        refine (k6 _).mono ?_
        rintro e w5 ⟨v, rfl, A, c, rfl, hO, hg, hf5⟩
        have B5 := Lib.hid (B1.out.fr hf5 id)
        have F5 := Lib.hid (F.out.trans hf5)
        have OG := Lib.hid hO
        obtain ⟨N, hN⟩ : ∃ N, N = G.length := ⟨_, rfl⟩
        have hn8 := FL.out.n8
        rw [← hN] at OG hn8 ⊢
        have hok := FL.out.ok
        rw [← hN] at hok
        have HNN := Lib.hid hN
        have HGc := Lib.hid (show 0 < N → ∃ g cur, A = some ⟨g, 0, none⟩ ∧ Blk w5 g 3 cur ∧ ∀ (i x : Nat), G[i]? = some x → cur[i]? = some (.int .i64 (x : Int)) from fun h => own_intB OG.out h)
        have HZ := Lib.hid FL.out.hz
        clear hf5 B1 F hO hg hN BA OG
        have hz : (8 : Int) - (N : Int) = (z : Int) := by rw [HZ.out, ← HNN.out]; omega
        have hzp : 0 ≤ at_ → 0 < z := by omega
        have hok2 : (at_ = -1 ∧ N = 8) ∨ (0 ≤ at_ ∧ at_ ≤ N ∧ N ≤ 7 ∧ 0 < z) := by
          rcases hok with h | h
          · exact .inl h
          · exact .inr ⟨h.1, h.2.1, h.2.2, hzp h.1⟩
        clear hok hzp
        go_wp2_with fail
        all_goals
          obtain ⟨i0, hi, hz0, hz1, hz2⟩ := info_parts infoI
          have G1S := Lib.hid HG1.out
          go_loopw [12, 13] (fun v i wr => ∃ j : Nat, j ≤ N ∧ i = .int .i64 (j : Int) ∧ Ix w5 wr v (pre j)) (fun _ i _ => 9 - (intOf i).toNat)
          case atStart => exact ⟨0, by omega, rfl, by rw [FL.out.p0]; exact Ix.nil_ (Fr.refl _ _)⟩
          case round =>
            obtain ⟨j, hj, rfl, A2, c2, rfl, hO, hg, hF⟩ := hrel
            have hpl := FL.out.len j
            obtain ⟨M, hM⟩ : ∃ M, M = (pre j).length := ⟨_, rfl⟩
            rw [← hM] at hO hpl ⊢
            have HM := Lib.hid hM.symm
            have O1 := Lib.hid hO
            have G2 := Lib.hid hg
            have F1 := Lib.hid hF
            clear hO hg hF hM
            by_cases hjN : j < N
            · have hjI : (j : Int) < (N : Int) := by omega
              obtain ⟨gG, cG, rfl, hBG, hcG⟩ := HGc.out (by omega)
              obtain ⟨u, hu⟩ : ∃ u, G[j]? = some u := ⟨G[j]'(by rw [← HNN.out]; exact hjN), List.getElem?_eq_getElem _⟩
              have HBG := Lib.hid hBG
              have HY := Lib.hid (hcG _ _ hu)
              by_cases hja : (j : Int) = at_
              · (try (exfalso; omega))
                all_goals
                  have HP := Lib.hid (FL.out.sA j u hu hja)
                  have hq : ((j : Int) == at_) = true := by simp [hja]
                  have h0z : 0 < z := by omega
                  have hz8 : z ≤ 8 := by omega
                  clear hu hBG hcG hja
                  go_wp2_with (at_builtin; refine wpList_append0s wr rfl (.tmp 84) (.tmp 87) 65 3 rfl 3 i0 (.int .i64 0) Tryz.underlying65 Tryz.underlying3 hi hz0 hz1 hz2 rfl rfl A2 M c2 _ rfl O1.out z rfl h0z (by omega) (by omega) ?_)
                  intro g' c' w7 hO' hF' hA'
                  obtain ⟨A7, c7, e7, hO7, hG7, hF7⟩ := Ix.zeros G2.out F1.out HM.out hO' hF' hA'
                  injection e7 with e71 e72 e73
                  subst e71 e73
                  rw [← e72] at hO7
                  have O7 := Lib.hid hO7
                  have G7 := Lib.hid hG7
                  have F7 := Lib.hid hF7
                  have HM7 := Lib.hid (show (pre j ++ List.replicate z 0).length = M + z by rw [List.length_append, HM.out, List.length_replicate])
                  have y0 := ((HBG.out.fr hF7 id).cell j).trans HY.out
                  have hMz : M + z ≤ 16 := by omega
                  generalize M + z = M7 at *
                  clear hO' hF' hA' hO7 hG7 hF7 e72
                  go_wp2_with (at_builtin; refine wpList_append1 w7 rfl (.tmp 89) (.tmp 94) 65 rfl 3 i0 (.int .i64 0) 1 8 Tryz.underlying65 hi hz0 hz1 hz2 rfl (by omega) _ M7 _ _ rfl O7.out [.int .i64 (u : Int)] rfl rfl ?_ ?_ ?_ ?_)
                  · simp [Value.oneCell']
                  · omega
                  · omega
                  · intro g8 c8 w8 hO8 hF8 hA8
                    have HB := Lib.hid (Ix.step (l := pre j ++ List.replicate z 0) G7.out F7.out HM7.out (by rw [List.map_append, List.map_replicate]; simpa [i64u] using hO8) (hF8.mono fun i _ h => by cases h; rfl) (hA8.elim (fun h => .inl (by first | (simp; done) | exact h)) .inr) rfl)
                    clear hO8 hF8 hA8
                    go_wp2_with fail
                    go_roundw
                    case rel => exact ⟨j + 1, by omega, by go_num, by rw [HP.out]; exact HB.out⟩
                    case measure => first | (simp [intOf]; done) | (simp [intOf]; omega)
              · have HP := Lib.hid (FL.out.sB j u hu hja)
                have hq : ((j : Int) == at_) = false := by simp [hja]
                have y0 := ((HBG.out.fr F1.out id).cell j).trans HY.out
                clear hu hBG hcG hja
                go_wp2_with (at_builtin; refine wpList_append1 wr rfl (.tmp 89) (.tmp 94) 65 rfl 3 i0 (.int .i64 0) 1 8 Tryz.underlying65 hi hz0 hz1 hz2 rfl (by omega) A2 M c2 _ rfl O1.out [.int .i64 (u : Int)] rfl rfl ?_ ?_ ?_ ?_)
                · simp [Value.oneCell']
                · omega
                · omega
                · intro g8 c8 w8 hO8 hF8 hA8
                  have HB := Lib.hid (Ix.step G2.out F1.out HM.out hO8 hF8 hA8 rfl)
                  clear hO8 hF8 hA8
                  go_wp2_with fail
                  go_roundw
                  case rel => exact ⟨j + 1, by omega, by go_num, by rw [HP.out]; exact HB.out⟩
                  case measure => first | (simp [intOf]; done) | (simp [intOf]; omega)
            · obtain rfl : j = N := by omega
              have hfin := FL.out.fin
              rw [← HNN.out] at hfin
              clear HGc HZ
              rcases hfin with ⟨hat, hall⟩ | ⟨hat, hall⟩
              · (try (exfalso; omega))
                all_goals
                  have h0z : 0 < z := by omega
                  have hz8 : z ≤ 8 := by omega
                  have hq : (at_ == (j : Int)) = true := by simp [hat]
                  have HALL := Lib.hid hall
                  clear hat hall hok2
                  go_wp2_with (at_builtin; refine wpList_append0s wr rfl (.tmp 100) (.tmp 103) 65 3 rfl 3 i0 (.int .i64 0) Tryz.underlying65 Tryz.underlying3 hi hz0 hz1 hz2 rfl rfl A2 M c2 _ rfl O1.out z rfl h0z (by omega) (by omega) ?_)
                  intro g' c' wA hO' hF' hA'
                  have hIA := Ix.zeros G2.out F1.out HM.out hO' hF' hA'
                  rw [← HALL.out] at hIA
                  clear hO' hF' hA' hi hz0 hz1 hz2
                  obtain ⟨hn88, gA, curA, eA, hBA, hcA, hFA⟩ := hIA.open8 FL.out.all8
                  obtain ⟨eA, -⟩ := Addr.mk.inj (Option.some.inj eA)
                  have eA' := eA.symm
                  subst eA'
                  rw [hn88]
                  have HCA := Lib.hid hcA
                  have BAA := Lib.hid hBA
                  have B1A := Lib.hid (B5.out.fr hFA id)
                  have FFA := Lib.hid (F5.out.trans hFA)
                  clear hFA hBA hcA hIA
                  go_wp2_with fail
                  have FB := Lib.hid (FFA.out.alloc (.cells #[.bool true, .int .u64 0, .int .u64 0] 24))
                  have BB9 := Lib.hid (Blk.new wA 24 #[.bool true, .int .u64 0, .int .u64 0])
                  have BAB := Lib.hid (BAA.out.alloc (.cells #[.bool true, .int .u64 0, .int .u64 0] 24))
                  have B1B := Lib.hid (B1A.out.alloc (.cells #[.bool true, .int .u64 0, .int .u64 0] 24))
                  have NA := Lib.hid (show wA.heap.size ≠ gA from by have := BAA.out.lt; omega)
                  have N1 := Lib.hid (show wA.heap.size ≠ g1 from by have := B1A.out.lt; omega)
                  have G9 := Lib.hid (show w.heap.size ≤ wA.heap.size from FFA.out.size)
                  clear BAA B1A FFA B5 F5
                  generalize wA.alloc _ = wB at *
                  generalize wA.heap.size = g9 at *
                  go_loopw [15] (fun i wr => ∃ j : Nat, j ≤ 4 ∧ i = .int .i64 (j : Int) ∧ Blk wr g9 24 #[.bool true, .int .u64 ((jn (ALL.take j) : Nat) : Int), .int .u64 ((jn ((ALL.drop 4).take j) : Nat) : Int)] ∧ Blk wr gA 3 curA ∧ Blk wr g1 24 #[.bool false, .int .u64 0, .int .u64 0] ∧ Fr N0 w wr) (fun i _ => 5 - (intOf i).toNat)
                  case atStart => exact ⟨0, by omega, rfl, BB9.out, BAB.out, B1B.out, FB.out⟩
                  case round =>
                    obtain ⟨j, hj, rfl, h9, hA, h1, hF⟩ := hrel
                    have B9 := Lib.hid h9
                    have BA := Lib.hid hA
                    have B1 := Lib.hid h1
                    have F := Lib.hid hF
                    clear h9 hA h1 hF BB9 BAB B1B FB
                    have l8 := FL.out.all8
                    by_cases hj4 : j < 4
                    · have hjI : (j : Int) < 4 := by omega
                      obtain ⟨u, hu⟩ : ∃ u, ALL[j]? = some u := ⟨ALL[j]'(by omega), List.getElem?_eq_getElem _⟩
                      obtain ⟨u', hu'⟩ : ∃ u, ALL[4 + j]? = some u := ⟨ALL[4 + j]'(by omega), List.getElem?_eq_getElem _⟩
                      have u16 := FL.out.lt u (List.mem_of_getElem? hu)
                      have u16' := FL.out.lt u' (List.mem_of_getElem? hu')
                      have ya := (BA.out.cell j).trans (HCA.out _ _ hu)
                      have yb := (BA.out.cell (4 + j)).trans (HCA.out _ _ hu')
                      have HYB := Lib.hid (HCA.out _ _ hu')
                      have e1 : jn (ALL.take (j + 1)) = jn (ALL.take j) * 65536 + u := by
                        obtain ⟨q1, q2⟩ := List.getElem?_eq_some_iff.1 hu
                        rw [List.take_succ_eq_append_getElem q1, q2, jn_snoc]
                      have e2 : jn ((ALL.drop 4).take (j + 1)) = jn ((ALL.drop 4).take j) * 65536 + u' := by
                        have hd : (ALL.drop 4)[j]? = some u' := by rw [List.getElem?_drop]; exact hu'
                        obtain ⟨q1, q2⟩ := List.getElem?_eq_some_iff.1 hd
                        rw [List.take_succ_eq_append_getElem q1, q2, jn_snoc]
                      have b1 : jn (ALL.take j) < 281474976710656 := by
                        have h := jn_lt (min j 8) (ALL.take j) (by rw [List.length_take, l8]) fun v hv => FL.out.lt v (List.mem_of_mem_take hv)
                        have h2 := Nat.pow_le_pow_right (n := 65536) (by omega) (show min j 8 ≤ 3 by omega)
                        omega
                      have b2 : jn ((ALL.drop 4).take j) < 281474976710656 := by
                        have h := jn_lt (min j 4) ((ALL.drop 4).take j) (by rw [List.length_take, List.length_drop, l8]) fun v hv => FL.out.lt v (List.mem_of_mem_drop (List.mem_of_mem_take hv))
                        have h2 := Nat.pow_le_pow_right (n := 65536) (by omega) (show min j 4 ≤ 3 by omega)
                        omega
                      have E1 := Lib.hid e1
                      have E2 := Lib.hid e2
                      generalize jn (ALL.take j) = H at *
                      generalize jn ((ALL.drop 4).take j) = L at *
                      obtain ⟨z0, z1, z2⟩ := B9.out.c3
                      have zf1 := B9.out.frozen 1
                      have zf2 := B9.out.frozen 2
                      have hw1 : IntKind.u64.wrap ((H : Int) * 65536) = (H : Int) * 65536 := IntWalk.u64_in _ (by omega)
                      have hw2 : IntKind.u64.wrap ((L : Int) * 65536) = (L : Int) * 65536 := IntWalk.u64_in _ (by omega)
                      have hw3 : IntKind.u64.wrap ((H : Int) * 65536 + (u : Int)) = (H : Int) * 65536 + (u : Int) := IntWalk.u64_in _ (by omega)
                      have hw4 : IntKind.u64.wrap ((L : Int) * 65536 + (u' : Int)) = (L : Int) * 65536 + (u' : Int) := IntWalk.u64_in _ (by omega)
                      have hw5 : IntKind.u64.wrap (u : Int) = (u : Int) := IntWalk.u64_in _ (by omega)
                      have hw6 : IntKind.u64.wrap (u' : Int) = (u' : Int) := IntWalk.u64_in _ (by omega)
                      have hw7 : IntKind.i64.wrap (4 + (j : Int)) = 4 + (j : Int) := IntWalk.i64_in _ (by omega)
                      have hj0 : 0 ≤ 4 + (j : Int) := by omega
                      have hjt : (4 + (j : Int)).toNat = 4 + j := by omega
                      have hj8 : 4 + (j : Int) < 8 := by omega
                      have hj8b : (j : Int) < 8 := by omega
                      clear hu hu' e1 e2
                      go_wp2_with fail
                      go_region
                      have C9 := Lib.hid (B9.out.set_ 1 (.int .u64 ((H : Int) * 65536 + (u : Int)))).drew
                      have CA := Lib.hid (BA.out.far (p := ⟨g9, 1, none⟩) (fun e => NA.out e.symm) (.int .u64 ((H : Int) * 65536 + (u : Int)))).drew
                      have C1 := Lib.hid (B1.out.far (p := ⟨g9, 1, none⟩) (fun e => N1.out e.symm) (.int .u64 ((H : Int) * 65536 + (u : Int)))).drew
                      have CF := Lib.hid ((F.out.setCell (p := ⟨g9, 1, none⟩) (.inr G9.out) (.int .u64 ((H : Int) * 65536 + (u : Int)))).drew)
                      go_wp2_with fail
                      clear ya yb z0 z1 z2 zf1 zf2 hw1 hw3 hw5
                      generalize World.drew _ = wX at *
                      obtain ⟨z0, z1, z2⟩ := Blk.c3 (show Blk wX g9 24 #[.bool true, .int .u64 ((H : Int) * 65536 + (u : Int)), .int .u64 (L : Int)] from C9.out)
                      have zf2 := C9.out.frozen 2
                      have yb := (CA.out.cell (4 + j)).trans HYB.out
                      go_region
                      have D9 := Lib.hid (C9.out.set_ 2 (.int .u64 ((L : Int) * 65536 + (u' : Int)))).drew
                      have DA := Lib.hid (CA.out.far (p := ⟨g9, 2, none⟩) (fun e => NA.out e.symm) (.int .u64 ((L : Int) * 65536 + (u' : Int)))).drew
                      have D1 := Lib.hid (C1.out.far (p := ⟨g9, 2, none⟩) (fun e => N1.out e.symm) (.int .u64 ((L : Int) * 65536 + (u' : Int)))).drew
                      have DF := Lib.hid ((CF.out.setCell (p := ⟨g9, 2, none⟩) (.inr G9.out) (.int .u64 ((L : Int) * 65536 + (u' : Int)))).drew)
                      clear yb z0 z1 z2 zf2 hw2 hw4 hw6 hw7 hj0 hjt
                      go_wp2_with fail
                      go_roundw
                      case rel => exact ⟨j + 1, by omega, by go_num, by rw [E1.out, E2.out]; simpa using D9.out, DA.out, D1.out, DF.out⟩
                      case measure => first | (simp [intOf]; done) | (simp [intOf]; omega)
                    · obtain rfl : j = 4 := by omega
                      have e4 : (ALL.drop 4).take 4 = ALL.drop 4 := List.take_of_length_le (by rw [List.length_drop, l8]; omega)
                      rw [e4, ← HH0.out, ← HL0.out] at B9
                      obtain ⟨z0, z1, z2⟩ := B9.out.c3
                      clear e4
                      go_wp2_with (refine wpList_store_row rfl 24 _ _ rfl g1 _ rfl rfl _ _ B1.out rfl rfl (by simp [Value.oneCell']) ?_)
                      refine ret_cell2 rfl rfl (B1.out.row _) Tryz.underlying24 rfl ⟨rfl, Fr.setRow F.out (.inr HG1.out) _⟩
              · have hq : (at_ == (j : Int)) = false := by simp; omega
                obtain ⟨wA, hwA⟩ : ∃ wA, wA = wr := ⟨_, rfl⟩
                have hIA := Ix.mk' HM.out hall.symm O1.out G2.out F1.out
                rw [← hwA] at hIA ⊢
                clear hwA hat hall hok2 hi hz0 hz1 hz2 O1 G2 F1
                obtain ⟨hn88, gA, curA, eA, hBA, hcA, hFA⟩ := hIA.open8 FL.out.all8
                subst eA hn88
                have HCA := Lib.hid hcA
                have BAA := Lib.hid hBA
                have B1A := Lib.hid (B5.out.fr hFA id)
                have FFA := Lib.hid (F5.out.trans hFA)
                clear hFA hBA hcA hIA
                go_wp2_with fail
                have FB := Lib.hid (FFA.out.alloc (.cells #[.bool true, .int .u64 0, .int .u64 0] 24))
                have BB9 := Lib.hid (Blk.new wA 24 #[.bool true, .int .u64 0, .int .u64 0])
                have BAB := Lib.hid (BAA.out.alloc (.cells #[.bool true, .int .u64 0, .int .u64 0] 24))
                have B1B := Lib.hid (B1A.out.alloc (.cells #[.bool true, .int .u64 0, .int .u64 0] 24))
                have NA := Lib.hid (show wA.heap.size ≠ gA from by have := BAA.out.lt; omega)
                have N1 := Lib.hid (show wA.heap.size ≠ g1 from by have := B1A.out.lt; omega)
                have G9 := Lib.hid (show w.heap.size ≤ wA.heap.size from FFA.out.size)
                clear BAA B1A FFA B5 F5
                generalize wA.alloc _ = wB at *
                generalize wA.heap.size = g9 at *
                go_loopw [15] (fun i wr => ∃ j : Nat, j ≤ 4 ∧ i = .int .i64 (j : Int) ∧ Blk wr g9 24 #[.bool true, .int .u64 ((jn (ALL.take j) : Nat) : Int), .int .u64 ((jn ((ALL.drop 4).take j) : Nat) : Int)] ∧ Blk wr gA 3 curA ∧ Blk wr g1 24 #[.bool false, .int .u64 0, .int .u64 0] ∧ Fr N0 w wr) (fun i _ => 5 - (intOf i).toNat)
                case atStart => exact ⟨0, by omega, rfl, BB9.out, BAB.out, B1B.out, FB.out⟩
                case round =>
                  obtain ⟨j, hj, rfl, h9, hA, h1, hF⟩ := hrel
                  have B9 := Lib.hid h9
                  have BA := Lib.hid hA
                  have B1 := Lib.hid h1
                  have F := Lib.hid hF
                  clear h9 hA h1 hF BB9 BAB B1B FB
                  have l8 := FL.out.all8
                  by_cases hj4 : j < 4
                  · have hjI : (j : Int) < 4 := by omega
                    obtain ⟨u, hu⟩ : ∃ u, ALL[j]? = some u := ⟨ALL[j]'(by omega), List.getElem?_eq_getElem _⟩
                    obtain ⟨u', hu'⟩ : ∃ u, ALL[4 + j]? = some u := ⟨ALL[4 + j]'(by omega), List.getElem?_eq_getElem _⟩
                    have u16 := FL.out.lt u (List.mem_of_getElem? hu)
                    have u16' := FL.out.lt u' (List.mem_of_getElem? hu')
                    have ya := (BA.out.cell j).trans (HCA.out _ _ hu)
                    have yb := (BA.out.cell (4 + j)).trans (HCA.out _ _ hu')
                    have HYB := Lib.hid (HCA.out _ _ hu')
                    have e1 : jn (ALL.take (j + 1)) = jn (ALL.take j) * 65536 + u := by
                      obtain ⟨q1, q2⟩ := List.getElem?_eq_some_iff.1 hu
                      rw [List.take_succ_eq_append_getElem q1, q2, jn_snoc]
                    have e2 : jn ((ALL.drop 4).take (j + 1)) = jn ((ALL.drop 4).take j) * 65536 + u' := by
                      have hd : (ALL.drop 4)[j]? = some u' := by rw [List.getElem?_drop]; exact hu'
                      obtain ⟨q1, q2⟩ := List.getElem?_eq_some_iff.1 hd
                      rw [List.take_succ_eq_append_getElem q1, q2, jn_snoc]
                    have b1 : jn (ALL.take j) < 281474976710656 := by
                      have h := jn_lt (min j 8) (ALL.take j) (by rw [List.length_take, l8]) fun v hv => FL.out.lt v (List.mem_of_mem_take hv)
                      have h2 := Nat.pow_le_pow_right (n := 65536) (by omega) (show min j 8 ≤ 3 by omega)
                      omega
                    have b2 : jn ((ALL.drop 4).take j) < 281474976710656 := by
                      have h := jn_lt (min j 4) ((ALL.drop 4).take j) (by rw [List.length_take, List.length_drop, l8]) fun v hv => FL.out.lt v (List.mem_of_mem_drop (List.mem_of_mem_take hv))
                      have h2 := Nat.pow_le_pow_right (n := 65536) (by omega) (show min j 4 ≤ 3 by omega)
                      omega
                    have E1 := Lib.hid e1
                    have E2 := Lib.hid e2
                    generalize jn (ALL.take j) = H at *
                    generalize jn ((ALL.drop 4).take j) = L at *
                    obtain ⟨z0, z1, z2⟩ := B9.out.c3
                    have zf1 := B9.out.frozen 1
                    have zf2 := B9.out.frozen 2
                    have hw1 : IntKind.u64.wrap ((H : Int) * 65536) = (H : Int) * 65536 := IntWalk.u64_in _ (by omega)
                    have hw2 : IntKind.u64.wrap ((L : Int) * 65536) = (L : Int) * 65536 := IntWalk.u64_in _ (by omega)
                    have hw3 : IntKind.u64.wrap ((H : Int) * 65536 + (u : Int)) = (H : Int) * 65536 + (u : Int) := IntWalk.u64_in _ (by omega)
                    have hw4 : IntKind.u64.wrap ((L : Int) * 65536 + (u' : Int)) = (L : Int) * 65536 + (u' : Int) := IntWalk.u64_in _ (by omega)
                    have hw5 : IntKind.u64.wrap (u : Int) = (u : Int) := IntWalk.u64_in _ (by omega)
                    have hw6 : IntKind.u64.wrap (u' : Int) = (u' : Int) := IntWalk.u64_in _ (by omega)
                    have hw7 : IntKind.i64.wrap (4 + (j : Int)) = 4 + (j : Int) := IntWalk.i64_in _ (by omega)
                    have hj0 : 0 ≤ 4 + (j : Int) := by omega
                    have hjt : (4 + (j : Int)).toNat = 4 + j := by omega
                    have hj8 : 4 + (j : Int) < 8 := by omega
                    have hj8b : (j : Int) < 8 := by omega
                    clear hu hu' e1 e2
                    go_wp2_with fail
                    go_region
                    have C9 := Lib.hid (B9.out.set_ 1 (.int .u64 ((H : Int) * 65536 + (u : Int)))).drew
                    have CA := Lib.hid (BA.out.far (p := ⟨g9, 1, none⟩) (fun e => NA.out e.symm) (.int .u64 ((H : Int) * 65536 + (u : Int)))).drew
                    have C1 := Lib.hid (B1.out.far (p := ⟨g9, 1, none⟩) (fun e => N1.out e.symm) (.int .u64 ((H : Int) * 65536 + (u : Int)))).drew
                    have CF := Lib.hid ((F.out.setCell (p := ⟨g9, 1, none⟩) (.inr G9.out) (.int .u64 ((H : Int) * 65536 + (u : Int)))).drew)
                    go_wp2_with fail
                    clear ya yb z0 z1 z2 zf1 zf2 hw1 hw3 hw5
                    generalize World.drew _ = wX at *
                    obtain ⟨z0, z1, z2⟩ := Blk.c3 (show Blk wX g9 24 #[.bool true, .int .u64 ((H : Int) * 65536 + (u : Int)), .int .u64 (L : Int)] from C9.out)
                    have zf2 := C9.out.frozen 2
                    have yb := (CA.out.cell (4 + j)).trans HYB.out
                    go_region
                    have D9 := Lib.hid (C9.out.set_ 2 (.int .u64 ((L : Int) * 65536 + (u' : Int)))).drew
                    have DA := Lib.hid (CA.out.far (p := ⟨g9, 2, none⟩) (fun e => NA.out e.symm) (.int .u64 ((L : Int) * 65536 + (u' : Int)))).drew
                    have D1 := Lib.hid (C1.out.far (p := ⟨g9, 2, none⟩) (fun e => N1.out e.symm) (.int .u64 ((L : Int) * 65536 + (u' : Int)))).drew
                    have DF := Lib.hid ((CF.out.setCell (p := ⟨g9, 2, none⟩) (.inr G9.out) (.int .u64 ((L : Int) * 65536 + (u' : Int)))).drew)
                    clear yb z0 z1 z2 zf2 hw2 hw4 hw6 hw7 hj0 hjt
                    go_wp2_with fail
                    go_roundw
                    case rel => exact ⟨j + 1, by omega, by go_num, by rw [E1.out, E2.out]; simpa using D9.out, DA.out, D1.out, DF.out⟩
                    case measure => first | (simp [intOf]; done) | (simp [intOf]; omega)
                  · obtain rfl : j = 4 := by omega
                    have e4 : (ALL.drop 4).take 4 = ALL.drop 4 := List.take_of_length_le (by rw [List.length_drop, l8]; omega)
                    rw [e4, ← HH0.out, ← HL0.out] at B9
                    obtain ⟨z0, z1, z2⟩ := B9.out.c3
                    clear e4
                    go_wp2_with (refine wpList_store_row rfl 24 _ _ rfl g1 _ rfl rfl _ _ B1.out rfl rfl (by simp [Value.oneCell']) ?_)
                    refine ret_cell2 rfl rfl (B1.out.row _) Tryz.underlying24 rfl ⟨rfl, Fr.setRow F.out (.inr HG1.out) _⟩
end
end Go.Proofs.YtcameghlkplgfaaGreatDoor
namespace Go.Proofs.YtcameghlkplgfaaGreatDoor
open Go.Proofs Go.Shelf Go.RowKit
theorem grp_nil {X : List Nat} (h : X.length = 8) : grp X [] = X := by
  unfold grp
  rw [List.length_nil, h]
  simp
theorem fill_no {X : List Nat} (h8 : X.length = 8) (hlt : ∀ u ∈ X, u < 65536) : Fill X (-1) X 0 (fun i => X.take i) where
  n8 := by omega
  hz := by omega
  ok := .inl ⟨rfl, h8⟩
  p0 := rfl
  sA := fun i u _ h => by omega
  sB := fun i u hu _ => by
    obtain ⟨q1, q2⟩ := List.getElem?_eq_some_iff.1 hu
    rw [List.take_succ_eq_append_getElem q1, q2]
  fin := .inr ⟨by omega, by rw [List.take_of_length_le (Nat.le_refl _)]⟩
  len := fun i => by rw [List.length_take]; omega
  all8 := h8
  lt := hlt
def preG (X Y : List Nat) (i : Nat) : List Nat := if i ≤ X.length then X.take i else X ++ (List.replicate (8 - (X.length + Y.length)) 0 ++ Y.take (i - X.length))
theorem fill_gap {X Y : List Nat} (h7 : X.length + Y.length ≤ 7) (hx : ∀ u ∈ X, u < 65536) (hy : ∀ u ∈ Y, u < 65536) : Fill (X ++ Y) (X.length : Int) (grp X Y) (8 - (X.length + Y.length)) (preG X Y) where
  n8 := by rw [List.length_append]; omega
  hz := by rw [List.length_append]
  ok := .inr ⟨by omega, by rw [List.length_append]; omega, by rw [List.length_append]; omega⟩
  p0 := by unfold preG; rw [if_pos (Nat.zero_le _), List.take_zero]
  sA := fun i u hu h => by
    have hi : i = X.length := by omega
    subst hi
    unfold preG
    rw [if_neg (by omega), if_pos (Nat.le_refl _), List.take_of_length_le (Nat.le_refl _), show X.length + 1 - X.length = 0 + 1 by omega]
    rw [List.getElem?_append_right (Nat.le_refl _), Nat.sub_self] at hu
    obtain ⟨q1, q2⟩ := List.getElem?_eq_some_iff.1 hu
    rw [List.take_succ_eq_append_getElem q1, q2, List.take_zero, List.nil_append, List.append_assoc]
  sB := fun i u hu h => by
    unfold preG
    by_cases hi : i < X.length
    · rw [if_pos (by omega), if_pos (by omega)]
      rw [List.getElem?_append_left hi] at hu
      obtain ⟨q1, q2⟩ := List.getElem?_eq_some_iff.1 hu
      rw [List.take_succ_eq_append_getElem q1, q2]
    · rw [if_neg (by omega), if_neg (by omega)]
      rw [List.getElem?_append_right (by omega)] at hu
      obtain ⟨q1, q2⟩ := List.getElem?_eq_some_iff.1 hu
      rw [show i + 1 - X.length = i - X.length + 1 by omega, List.take_succ_eq_append_getElem q1, q2]
      simp only [List.append_assoc]
  fin := by
    rw [List.length_append]
    by_cases hy0 : Y.length = 0
    · left
      refine ⟨by omega, ?_⟩
      have : Y = [] := List.eq_nil_of_length_eq_zero hy0
      subst this
      unfold preG grp
      rw [if_pos (by simp), List.take_of_length_le (by simp), List.append_nil]
    · right
      refine ⟨by omega, ?_⟩
      unfold preG grp
      rw [if_neg (by omega), List.take_of_length_le (by omega)]
  len := fun i => by
    unfold preG
    split
    · rw [List.length_take]; omega
    · rw [List.length_append, List.length_append, List.length_replicate, List.length_take]; omega
  all8 := grp_len (by omega)
  lt := fun u hu => by
    unfold grp at hu
    rcases List.mem_append.1 hu with h | h
    · exact hx u h
    · rcases List.mem_append.1 h with h | h
      · have := List.eq_of_mem_replicate h; omega
      · exact hy u h
theorem rowR_nil : rowR [] = none := by decide +kernel
section
variable {w : World}
theorem rparse_any (s : ByteArray) (hs : s.size ≤ 1048576) : Calls Tryz.prog 21 #[.string s] w fun e w' => e = .returned (.tuple #[adV (parseA s).1, .int .i64 (parseA s).2]) ∧ Fr N0 w w' := by
  unfold parseA
  rw [spl_cut]
  cases hf : fourP (cutL 46 s.data.toList) with
  | some lo => exact rpar_four s hs lo hf
  | none =>
    have bad : sixP s = none → ∀ (N : Nat) (at_ : Int) (ok : Bool), (ok = false ∨ (ok = true ∧ at_ = -1 ∧ ((N : Int) != 8) = true) ∨ (ok = true ∧ 0 ≤ at_ ∧ 7 < (N : Int))) →
        (∀ W : World, Calls Tryz.prog 39 #[.string s] W fun e w' => ∃ A c, e = .returned (.tuple #[.slice A N c, .int .i64 at_, .bool ok]) ∧ Fr N0 W w') →
        Calls Tryz.prog 21 #[.string s] w fun e w' => e = .returned (.tuple #[adV (parseR none (sixP s)).1, .int .i64 (parseR none (sixP s)).2]) ∧ Fr N0 w w' := fun h6 N at_ ok hb k6 => by
      rw [h6]
      exact rpar_bad s hs hf N at_ ok hb k6
    have six : ∀ (a : Ad), sixP s = some a → ∀ (G : List Nat) (at_ : Int) (ALL : List Nat) (z : Nat) (pre : Nat → List Nat), Fill G at_ ALL z pre → a = adG ALL →
        (∀ W : World, Calls Tryz.prog 39 #[.string s] W fun e w' => ∃ v, e = .returned (.tuple #[v, .int .i64 at_, .bool true]) ∧ Ix W w' v G) →
        Calls Tryz.prog 21 #[.string s] w fun e w' => e = .returned (.tuple #[adV (parseR none (sixP s)).1, .int .i64 (parseR none (sixP s)).2]) ∧ Fr N0 w w' := fun a h6 G at_ ALL z pre hF ea k6 => by
      rw [h6, ea]
      exact rpar_six s hs hf G at_ ALL z pre hF k6
    rcases Lib.index_spec s.data.toList [58, 58] with ⟨hix, _⟩ | ⟨p, hix, _⟩
    · have hc : Lib.cut s.data.toList [58, 58] = (s.data.toList, [], false) := by
        unfold Lib.cut
        rw [if_neg (by omega)]
      have hS : sixP s = sixR (rowP (bA s.data.toList)) (some []) false := by
        unfold sixP
        rw [hc]
        rfl
      have k := fun (W : World) => rsix_no (w := W) s (by omega) hix
      cases hX : rowR s.data.toList with
      | none =>
        refine bad ?_ 0 0 false (.inl rfl) fun W => (k W).mono fun e w' ⟨_, h, hF⟩ => ⟨none, 0, h hX, hF⟩
        rw [hS]
        by_cases hl : s.data.toList = []
        · rw [hl]
          rfl
        · rw [rowP_ne hl]
          unfold rowR at hX
          rw [hX]
          rfl
      | some X =>
        have hl : s.data.toList ≠ [] := by
          intro e
          rw [e, rowR_nil] at hX
          cases hX
        have hrp : rowP (bA s.data.toList) = some X := by
          rw [rowP_ne hl]
          exact hX
        rw [hrp] at hS
        have hlt := rowP_lt hrp
        by_cases h8 : X.length = 8
        · refine six (adG X) ?_ X (-1) X 0 _ (fill_no h8 hlt) rfl fun W => (k W).mono fun e w' ⟨h, _, _⟩ => h X hX
          rw [hS]
          unfold sixR
          simp only
          rw [if_neg (by simp [h8]), grp_nil h8]
        · refine bad ?_ X.length (-1) true (.inr (.inl ⟨rfl, rfl, by simp; omega⟩)) fun W => (k W).mono fun e w' ⟨h, _, hF⟩ => by
            obtain ⟨v, e1, A, c, e2, _⟩ := h X hX
            subst e2
            exact ⟨A, c, e1, hF⟩
          rw [hS]
          unfold sixR
          simp only
          rw [if_pos (.inr ⟨by trivial, by simpa using h8⟩)]
    · have hc : Lib.cut s.data.toList [58, 58] = (s.data.toList.take p, s.data.toList.drop (p + 2), true) := by
        unfold Lib.cut
        rw [if_pos (by omega), hix]
        rfl
      have hS : sixP s = sixR (rowP (bA (s.data.toList.take p))) (rowP (bA (s.data.toList.drop (p + 2)))) true := by
        unfold sixP
        rw [hc]
      have k := fun (W : World) => rsix_gap (w := W) s (by omega) p hix _ _ rfl rfl
      have none_ : (rowP (bA (s.data.toList.take p)) = none ∨ rowP (bA (s.data.toList.drop (p + 2))) = none) → sixP s = none →
          Calls Tryz.prog 21 #[.string s] w fun e w' => e = .returned (.tuple #[adV (parseR none (sixP s)).1, .int .i64 (parseR none (sixP s)).2]) ∧ Fr N0 w w' := fun h h6 =>
        bad h6 0 0 false (.inl rfl) fun W => (k W).mono fun e w' ⟨_, q, hF⟩ => ⟨none, 0, q h, hF⟩
      cases hX : rowP (bA (s.data.toList.take p)) with
      | none => exact none_ (.inl hX) (by rw [hS, hX]; rfl)
      | some X =>
        cases hY : rowP (bA (s.data.toList.drop (p + 2))) with
        | none => exact none_ (.inr hY) (by rw [hS, hX, hY]; rfl)
        | some Y =>
          rw [hX, hY] at hS
          have lx := rowP_lt hX
          have ly := rowP_lt hY
          by_cases h7 : X.length + Y.length ≤ 7
          · refine six (adG (grp X Y)) ?_ (X ++ Y) (X.length : Int) (grp X Y) _ _ (fill_gap h7 lx ly) rfl fun W => (k W).mono fun e w' ⟨h, _, _⟩ => h X Y hX hY
            rw [hS]
            unfold sixR
            simp only
            rw [if_neg (by simp; omega)]
          · refine bad ?_ (X ++ Y).length (X.length : Int) true (.inr (.inr ⟨rfl, by omega, by rw [List.length_append]; omega⟩)) fun W => (k W).mono fun e w' ⟨h, _, hF⟩ => by
              obtain ⟨v, e1, A, c, e2, _⟩ := h X Y hX hY
              subst e2
              exact ⟨A, c, e1, hF⟩
            rw [hS]
            unfold sixR
            simp only
            rw [if_pos (.inl ⟨by trivial, by omega⟩)]
end
end Go.Proofs.YtcameghlkplgfaaGreatDoor
