/- The document's own arena: New, OrderAt, Free, Greatest, Taken. -/
import Derived.Test.YtncjhfofmeamdaaRfr
namespace Go.Proofs.Ytncjhfofmeamdaa
open Go.RowKit

theorem rnew_no (w : World) (o : Int) (ho : o < 0 ∨ 16 < o) : Calls Try.prog 10 #[.int .i64 o] w fun e w' => e = .returned (.tuple #[.pointer none, .int .i64 1]) ∧ w = w' := by
  by_cases h : o < 0
  · clear ho
    go_enter Try.func10, Try.ntmps10
    go_wp2_with fail
    go_ret2
    exact ⟨rfl, rfl⟩
  · have h2 : 16 < o := by omega
    clear ho
    go_enter Try.func10, Try.ntmps10
    go_wp2_with fail
    go_ret2
    exact ⟨rfl, rfl⟩
theorem rnew_ok (w : World) (n : Nat) (hn : n ≤ 16) : Calls Try.prog 10 #[.int .i64 (n : Int)] w fun e w' => e = .returned (.tuple #[.pointer (some ⟨w.heap.size, 0, none⟩), .int .i64 0]) ∧ RAr w' (fun i => w.heap.size ≤ i) w.heap.size n [] ∧ Fr (fun _ => False) w w' := by
  have h1 : ¬ (n : Int) < 0 := by omega
  have h2 : ¬ (16 : Int) < (n : Int) := by omega
  go_enter Try.func10, Try.ntmps10
  go_wp2_with fail
  go_ret2
  exact ⟨rfl, ⟨none, 0, Blk.new _ _ _, Own.nil_ _ _ _, Nat.le_refl _, nofun⟩, (Fr.refl _ _).alloc _⟩

section
variable {w : World} {b n : Nat} {F : Nat → Prop} {L : Tk}
theorem ordAt_drop {L : Tk} {j : Nat} {p : Nat × Nat} (hp : L[j]? = some p) (a : Int) : ordAt (L.drop j) a = if (p.1 : Int) = a then (p.2 : Int) else ordAt (L.drop (j + 1)) a := by
  obtain ⟨h, rfl⟩ := List.getElem?_eq_some_iff.1 hp
  rw [List.drop_eq_getElem_cons h]
  rfl
set_option maxHeartbeats 1600000 in
theorem rorder_any (h : RAr w F b n L) (hlen : L.length ≤ 65536) (a : Int) : Calls Try.prog 18 #[.pointer (some ⟨b, 0, none⟩), .int .i64 a] w fun e w' => e = .returned (.int .i64 (ordAt L a)) ∧ w = w' := by
  obtain ⟨A, c, hB, hO, _⟩ := h
  have b1 := hB.cell 1
  simp only [List.getElem?_toArray, List.getElem?_cons_zero, List.getElem?_cons_succ] at b1
  have HO := Lib.hid hO
  clear hB hO
  go_enter Try.func18, Try.ntmps18
  go_wp2_with fail
  go_loop [5] (fun i => ∃ j : Nat, j ≤ L.length ∧ i = .int .i64 (j : Int) ∧ ordAt (L.drop j) a = ordAt L a) (fun i => L.length + 1 - (intOf i).toNat)
  case atStart => exact ⟨0, Nat.zero_le _, rfl, rfl⟩
  case round =>
    obtain ⟨j, hj, rfl, hq⟩ := hrel
    have HQ := Lib.hid hq
    have hj16 : (j : Int) ≤ 65536 := by omega
    clear hq
    by_cases hjl : j < L.length
    · have hjI : (j : Int) < (L.length : Int) := by omega
      obtain ⟨y, k, hp⟩ : ∃ y k, L[j]? = some (y, k) := ⟨_, _, List.getElem?_eq_getElem hjl⟩
      obtain ⟨g, rfl⟩ := HO.out.some_ (by omega)
      have g0 := HO.out.cell (j * 2) (by omega)
      have g1 := HO.out.cell (j * 2 + 1) (by omega)
      rw [(bls_cell L j (y, k) hp).1] at g0
      rw [(bls_cell L j (y, k) hp).2] at g1
      have HD := Lib.hid (ordAt_drop hp a)
      have HJ := Lib.hid hjl
      clear hp
      by_cases hya : (y : Int) = a
      · have hd : ((y : Int) == a) = true := by simpa using hya
        have HR := Lib.hid (show ordAt L a = (k : Int) by rw [← HQ.out, HD.out, if_pos hya])
        clear hya
        go_wp2_with fail
        go_ret
        exact ⟨by rw [HR.out]; rfl, rfl⟩
      · have hd : ((y : Int) == a) = false := by simpa using hya
        have HR := Lib.hid (show ordAt (L.drop (j + 1)) a = ordAt L a by rw [← HQ.out, HD.out, if_neg hya])
        clear hya
        go_wp2_with fail
        go_round
        case rel => exact ⟨j + 1, HJ.out, by go_num, HR.out⟩
        case measure => simp [intOf]; omega
    · have hjI : ¬ (j : Int) < (L.length : Int) := by omega
      obtain rfl : j = L.length := by omega
      have HR := Lib.hid (show ordAt L a = -1 by rw [← HQ.out, List.drop_length]; rfl)
      go_wp2_with fail
      go_ret
      exact ⟨by rw [HR.out]; rfl, rfl⟩
theorem sizes_take_le (L : Tk) (j : Nat) : sizes (L.take j) ≤ sizes L := by
  have h1 : sizes (L.take j) + sizes (L.drop j) = sizes L := by
    unfold sizes
    rw [← List.sum_append, ← List.map_append, List.take_append_drop]
  omega
set_option maxHeartbeats 1600000 in
theorem rfree_any (h : RAr w F b n L) (hT : TOk n L) (hlen : L.length ≤ 65536) (hn : n ≤ 16) (hsz : sizes L ≤ 2 ^ n) : Calls Try.prog 22 #[.pointer (some ⟨b, 0, none⟩)] w fun e w' => e = .returned (.int .i64 ((2 ^ n - sizes L : Nat) : Int)) ∧ w = w' := by
  obtain ⟨A, c, hB, hO, _⟩ := h
  have b0 := hB.cell 0
  have b1 := hB.cell 1
  simp only [List.getElem?_toArray, List.getElem?_cons_zero, List.getElem?_cons_succ] at b0 b1
  have HO := Lib.hid hO
  have HT := Lib.hid hT
  have HPn := Lib.hid (pow16 hn)
  have HSZ := Lib.hid hsz
  clear hB hO hT hsz
  go_enter Try.func22, Try.ntmps22
  go_wp2_with fail
  refine (size_any w n hn).mono ?_
  rintro e w2 ⟨rfl, rfl⟩
  go_wp2_with fail
  go_loop [3, 4] (fun v i => ∃ j : Nat, j ≤ L.length ∧ v = .int .i64 ((2 ^ n - sizes (L.take j) : Nat) : Int) ∧ i = .int .i64 (j : Int)) (fun _ i => L.length + 1 - (intOf i).toNat)
  case atStart => exact ⟨0, Nat.zero_le _, rfl, rfl⟩
  case round =>
    obtain ⟨j, hj, rfl, rfl⟩ := hrel
    have hj16 : (j : Int) ≤ 65536 := by omega
    by_cases hjl : j < L.length
    · have hjI : (j : Int) < (L.length : Int) := by omega
      obtain ⟨y, k, hp⟩ : ∃ y k, L[j]? = some (y, k) := ⟨_, _, List.getElem?_eq_getElem hjl⟩
      obtain ⟨d1, d2, d3⟩ := HT.out.dy (y, k) (List.mem_of_getElem? hp)
      obtain ⟨g, rfl⟩ := HO.out.some_ (by omega)
      have g1 := HO.out.cell (j * 2 + 1) (by omega)
      rw [(bls_cell L j (y, k) hp).2] at g1
      have HD := Lib.hid (sizes_take hp)
      have HL := Lib.hid (sizes_take_le L (j + 1))
      have HJ := Lib.hid hjl
      have hk16 : k ≤ 16 := by simp at d2; omega
      clear hp d1 d2 d3
      obtain ⟨v, hv⟩ : ∃ v : Nat, v = 2 ^ n - sizes (L.take j) := ⟨_, rfl⟩
      rw [← hv]
      have HV := Lib.hid (show 2 ^ n - sizes (L.take (j + 1)) = v - 2 ^ k ∧ 2 ^ k ≤ v ∧ v ≤ 65536 by
        have h1 := HD.out
        have h2 := HL.out
        have h3 := HSZ.out
        have h4 := HPn.out
        simp only at h1
        rw [hv]
        generalize sizes (List.take (j + 1) L) = a1 at *
        generalize sizes (List.take j L) = a0 at *
        generalize 2 ^ k = q at *
        generalize 2 ^ n = N at *
        omega)
      clear hv
      go_wp2_with fail
      refine (size_any w k hk16).mono ?_
      rintro e w2 ⟨rfl, rfl⟩
      have hv1 : (2 : Int) ^ k ≤ (v : Int) := by rw [← powI]; have := HV.out; omega
      have hv2 : (v : Int) ≤ 65536 := by have := HV.out; omega
      have hv3 : (0 : Int) ≤ (2 : Int) ^ k := by rw [← powI]; exact Int.natCast_nonneg _
      rw [powI]
      go_wp2_with fail
      go_round
      case rel => exact ⟨j + 1, HJ.out, by rw [HV.out.1, ← powI]; have := HV.out.2.1; congr 1; omega, by go_num⟩
      case measure => simp [intOf]; omega
    · have hjI : ¬ (j : Int) < (L.length : Int) := by omega
      obtain rfl : j = L.length := by omega
      go_wp2_with fail
      go_ret
      exact ⟨rfl, rfl⟩
set_option maxRecDepth 100000 in
set_option maxHeartbeats 3200000 in
theorem rgreatest_any (h : RAr w F b n L) (hT : TOk n L) (hlen : L.length ≤ 65536) (hn : n ≤ 16) {gr : Int} (hg : Great n L gr) : Calls Try.prog 24 #[.pointer (some ⟨b, 0, none⟩)] w fun e w' => e = .returned (.int .i64 gr) ∧ Fr (fun _ => False) w w' := by
  have H := Lib.hid h
  have HT := Lib.hid hT
  obtain ⟨A, c, hB, hO, _⟩ := h
  have b0 := hB.cell 0
  simp only [List.getElem?_toArray, List.getElem?_cons_zero] at b0
  clear hB hO hT
  have hz : (0 : Nat) + 2 ^ n ≤ 65536 := by have := pow16 hn; omega
  have HF := Lib.hid (fre_any HT.out hn hlen n 0 hz (Dy.zero n) w H.out)
  have HM := Lib.hid (fun p => fre_frb (n := n) (T := L) (p := p))
  have HLE := Lib.hid ((fre_spec L n 0 (Dy.zero n)).2.2)
  have HG := Lib.hid hg
  have HPn := Lib.hid (pow16 hn)
  clear hz hg
  go_enter Try.func24, Try.ntmps24
  go_wp2_with fail
  refine HF.out.mono ?_
  rintro e w1 ⟨A1, c1, rfl, hO1, _, hF1⟩
  have F1 := Lib.hid hF1
  have O1 := Lib.hid hO1
  obtain ⟨l, hl⟩ : ∃ l, l = fre L n 0 := ⟨_, rfl⟩
  rw [← hl] at O1 HM HLE ⊢
  have hl16 : l.length ≤ 65536 := by have := HLE.out; have := HPn.out; omega
  clear hF1 hO1 hl HF
  go_wp2_with fail
  go_loop [4, 5] (fun v i => ∃ (j : Nat) (m : Int), j ≤ l.length ∧ v = .int .i64 m ∧ i = .int .i64 (j : Int) ∧ -1 ≤ m ∧ m ≤ n ∧ (∀ p, p ∈ l.take j → (p.2 : Int) ≤ m) ∧ (0 ≤ m → ∃ p, p ∈ l.take j ∧ (p.2 : Int) = m)) (fun _ i => l.length + 1 - (intOf i).toNat)
  case atStart => exact ⟨0, -1, Nat.zero_le _, rfl, rfl, by omega, by omega, fun p hp => by simp at hp, fun h => by omega⟩
  case round =>
    obtain ⟨j, m, hj, rfl, rfl, hm1, hm2, hm3, hm4⟩ := hrel
    have HM3 := Lib.hid hm3
    have HM4 := Lib.hid hm4
    have hj16 : (j : Int) ≤ 65536 := by omega
    clear hm3 hm4
    by_cases hjl : j < l.length
    · have hjI : (j : Int) < (l.length : Int) := by omega
      obtain ⟨y, k, hp⟩ : ∃ y k, l[j]? = some (y, k) := ⟨_, _, List.getElem?_eq_getElem hjl⟩
      have hkn : k ≤ n := ((HM.out (y, k)).1 (List.mem_of_getElem? hp)).1
      obtain ⟨g, rfl⟩ := O1.out.some_ (by omega)
      have g1 := O1.out.cell (j * 2 + 1) (by omega)
      rw [(bls_cell l j (y, k) hp).2] at g1
      have HTK := Lib.hid (show l.take (j + 1) = l.take j ++ [(y, k)] by rw [List.take_add_one, hp]; rfl)
      have HJ := Lib.hid hjl
      clear hp
      by_cases hmk : m < (k : Int)
      · go_wp2_with fail
        go_round
        case rel =>
          refine ⟨j + 1, (k : Int), HJ.out, ?_, by go_num, by omega, by omega, fun p hp => ?_, fun _ => ⟨(y, k), by rw [HTK.out]; simp, rfl⟩⟩
          · congr 1; omega
          · rw [HTK.out] at hp
            rcases List.mem_append.1 hp with hp | hp
            · have := HM3.out p hp; omega
            · obtain rfl : p = (y, k) := by simpa using hp
              exact Int.le_refl _
        case measure => simp [intOf]; omega
      · go_wp2_with fail
        go_round
        case rel =>
          refine ⟨j + 1, m, HJ.out, ?_, by go_num, hm1, hm2, fun p hp => ?_, fun h0 => ?_⟩
          · congr 1; omega
          · rw [HTK.out] at hp
            rcases List.mem_append.1 hp with hp | hp
            · exact HM3.out p hp
            · obtain rfl : p = (y, k) := by simpa using hp
              simp only; omega
          · obtain ⟨p, hp, e⟩ := HM4.out h0
            exact ⟨p, by rw [HTK.out]; exact List.mem_append_left _ hp, e⟩
        case measure => simp [intOf]; omega
    · have hjI : ¬ (j : Int) < (l.length : Int) := by omega
      obtain rfl : j = l.length := by omega
      have HR := Lib.hid (show m = gr from great_eq ⟨hm1, hm2, fun q hq hmq x hx => by
        have h1 := HM3.out (x, q) (by rw [List.take_length]; exact (HM.out (x, q)).2 hx)
        simp only at h1
        omega, fun h0 => by
        obtain ⟨p, hp, e⟩ := HM4.out h0
        rw [List.take_length] at hp
        have h1 := (HM.out p).1 hp
        exact ⟨p.1, by rw [← e, Int.toNat_natCast]; exact h1⟩⟩ HG.out)
      go_wp2_with fail
      go_ret
      exact ⟨by rw [← HR.out]; rfl, F1.out⟩
theorem ints_app (l r : List Nat) : ints (l ++ r) = ints l ++ ints r := by simp [ints]
set_option maxRecDepth 100000 in
set_option maxHeartbeats 3200000 in
theorem rtaken_any (h : RAr w F b n L) (hlen : L.length ≤ 65536) : Calls Try.prog 12 #[.pointer (some ⟨b, 0, none⟩)] w fun e w' => ∃ (A : Option Addr) (c : Nat), e = .returned (.slice A L.length c) ∧ Row w' A c (L.map (·.1)) ∧ Fr (fun _ => False) w w' := by
  have H := Lib.hid h
  clear h
  go_enter Try.func12, Try.ntmps12
  go_wp2_with fail
  go_loopw [3, 4] (fun v i wr => ∃ (j : Nat) (A : Option Addr) (c : Nat), j ≤ L.length ∧ v = .slice A j c ∧ i = .int .i64 (j : Int) ∧ Own wr 3 1 A j c (ints ((L.take j).map (·.1))) ∧ (∀ g, A = some ⟨g, 0, none⟩ → w.heap.size ≤ g) ∧ Fr (fun _ => False) w wr) (fun _ i _ => L.length + 1 - (intOf i).toNat)
  case atStart => exact ⟨0, none, 0, Nat.zero_le _, rfl, rfl, Own.nil_ _ _ _, nofun, Fr.refl _ _⟩
  case round =>
    obtain ⟨j, A1, c1, hj, rfl, rfl, hO1, hg1, hF1⟩ := hrel
    have O1 := Lib.hid hO1
    have G1 := Lib.hid hg1
    have F1 := Lib.hid hF1
    obtain ⟨A, c, hB, hO, _⟩ := H.out.fr0 hF1
    have HO := Lib.hid hO
    have b1 := hB.cell 1
    simp only [List.getElem?_toArray, List.getElem?_cons_zero, List.getElem?_cons_succ] at b1
    have hj16 : (j : Int) ≤ 65536 := by omega
    clear hB hO hO1 hg1 hF1
    by_cases hjl : j < L.length
    · have hjI : (j : Int) < (L.length : Int) := by omega
      obtain ⟨y, k, hp⟩ : ∃ y k, L[j]? = some (y, k) := ⟨_, _, List.getElem?_eq_getElem hjl⟩
      obtain ⟨g, rfl⟩ := HO.out.some_ (by omega)
      have g0 := HO.out.cell (j * 2) (by omega)
      rw [(bls_cell L j (y, k) hp).1] at g0
      have HTK := Lib.hid (show ints ((L.take (j + 1)).map (·.1)) = ints ((L.take j).map (·.1)) ++ [.int .i64 (y : Int)] by rw [List.take_add_one, hp, List.map_append, ints_app]; rfl)
      have HJ := Lib.hid hjl
      obtain ⟨i0, hi, hz0, hz1, hz2⟩ := info_parts info3
      clear hp
      go_wp2_with (at_builtin; refine wpList_append1 wr rfl (.tmp 14) (.tmp 23) 34 rfl 3 i0 (.int .i64 0) 1 8 Try.underlying34 hi hz0 hz1 hz2 rfl (by omega) A1 j c1 _ rfl O1.out [.int .i64 (y : Int)] rfl rfl ?_ ?_ ?_ ?_)
      · rfl
      · omega
      · omega
      · intro g' c' w' hO' hF' hA'
        have HO' := Lib.hid (show Own w' 3 1 (some ⟨g', 0, none⟩) (j + 1) c' (ints ((L.take (j + 1)).map (·.1))) by rw [HTK.out, List.map_take]; exact hO')
        have HF' := Lib.hid (F1.out.step hF' fun i hi => .inr (G1.out i hi))
        have HA' := Lib.hid (show ∀ g, (some ⟨g', 0, none⟩ : Option Addr) = some ⟨g, 0, none⟩ → w.heap.size ≤ g from fun g e => by
          rcases hA' with h | h
          · exact G1.out g (by rw [h, e])
          · injection e with e
            injection e with e
            rw [← e]
            exact Nat.le_trans F1.out.size h)
        clear hO' hF' hA'
        go_wp2_with fail
        go_roundw
        case rel => first | exact ⟨j + 1, some ⟨g', 0, none⟩, c', HJ.out, rfl, by go_num, HO'.out, HA'.out, HF'.out⟩ | ((repeat apply Exists.intro); exact ⟨⟨j + 1, some ⟨g', 0, none⟩, c', HJ.out, rfl, by go_num, HO'.out, HA'.out, HF'.out⟩, rfl⟩)
        case measure => simp [intOf]; omega
    · have hjI : ¬ (j : Int) < (L.length : Int) := by omega
      obtain rfl : j = L.length := by omega
      have O2 := Lib.hid (show Own wr 3 1 A1 L.length c1 (ints (L.map (·.1))) by have := O1.out; rwa [List.take_length] at this)
      go_wp2_with fail
      go_ret
      refine ⟨A1, c1, rfl, ?_, F1.out⟩
      cases A1 with
      | none =>
        rcases O2.out.2 with ⟨_, h1, rfl⟩ | ⟨g, _, h, _⟩
        · rw [List.length_eq_zero_iff.1 h1]
          exact Row.nil_ _
        · cases h
      | some ad =>
        obtain ⟨g2, rfl⟩ : ∃ g2, ad = ⟨g2, 0, none⟩ := by
          rcases O2.out.2 with ⟨h, _⟩ | ⟨g, _, h, _⟩
          · cases h
          · exact ⟨g, Option.some.inj h⟩
        exact Own.toRow (by rw [List.length_map]; exact O2.out)
end
end Go.Proofs.Ytncjhfofmeamdaa
