/- slices.DeleteFunc at paths: those of one who tells go. Flush. -/
import Derived.Test.YtnklbeigikcfkaaGreatDoorGc
import Derived.Test.YtnklbeigikcfkaaGreatDoorWy
import Derived.Test.YtnklbeigikcfkaaGreatDoorGd
import Derived.Deep.RegionWith
import Derived.Deep.RegionHeld3
namespace Go.Proofs.YtnklbeigikcfkaaGreatDoor
open Go.Proofs Go.RowKit
def noQ (q : Int) (l : List Pa) : List Pa := l.filter fun x => decide (x.proto ≠ q)
theorem noQ_le (q : Int) (l : List Pa) : (noQ q l).length ≤ l.length := List.length_filter_le _ _
theorem noQ_snoc (q : Int) (u : Pa) (l : List Pa) : noQ q (l ++ [u]) = if u.proto = q then noQ q l else noQ q l ++ [u] := by
  unfold noQ
  rw [List.filter_append]
  by_cases h : u.proto = q <;> simp [h]
theorem noQ_all {q : Int} {l : List Pa} (h : ∀ x ∈ l, x.proto ≠ q) : noQ q l = l := List.filter_eq_self.2 fun u hu => decide_eq_true (h u hu)
theorem take_snoc7 {l : List Pa} {j : Nat} {u : Pa} (h : l[j]? = some u) : l.take (j + 1) = l.take j ++ [u] := by
  obtain ⟨hj, e⟩ := List.getElem?_eq_some_iff.1 h
  rw [List.take_succ_eq_append_getElem hj, e]
theorem noQ_find (q : Int) : ∀ l : List Pa, ∃ p, p ≤ l.length ∧ (∀ j y, j < p → l[j]? = some y → y.proto ≠ q) ∧ (∀ y, l[p]? = some y → y.proto = q)
  | [] => ⟨0, Nat.le_refl _, fun _ _ h => absurd h (by omega), fun y h => by simp at h⟩
  | a :: r => by
    by_cases h : a.proto = q
    · exact ⟨0, by omega, fun _ _ h => absurd h (by omega), fun y hy => by simp only [List.getElem?_cons_zero, Option.some.injEq] at hy; exact hy ▸ h⟩
    · obtain ⟨p, h1, h2, h3⟩ := noQ_find q r
      refine ⟨p + 1, by simp only [List.length_cons]; omega, fun j y hj hy => ?_, fun y hy => h3 y (by simpa using hy)⟩
      cases j with
      | zero => simp only [List.getElem?_cons_zero, Option.some.injEq] at hy; exact hy ▸ h
      | succ j => exact h2 j y (by omega) (by simpa using hy)
section
variable {w : World}
set_option maxHeartbeats 3200000 in
set_option maxRecDepth 100000 in
theorem fl1_ (gx : Nat) (q : Int) (y : Pa) (hx : Blk w gx 3 #[.int .i64 q]) :
    Calls Tryz.prog 46 #[paV y, .pointer (some ⟨gx, 0, none⟩)] w fun e w' => e = .returned (.bool (decide (y.proto = q))) ∧ Fr N0 w w' := by
  obtain ⟨p', m', ⟨s', h', l'⟩, o', a'⟩ := y
  simp only at *
  have HX := Lib.hid (hx.alloc (.cells #[.int .i64 p', .int .i64 m', .bool s', .int .u64 (h' : Int), .int .u64 (l' : Int), .int .i64 o', .bool a'] 34))
  have HF := Lib.hid ((Fr.refl N0 w).alloc (.cells #[.int .i64 p', .int .i64 m', .bool s', .int .u64 (h' : Int), .int .u64 (l' : Int), .int .i64 o', .bool a'] 34))
  have x0 := HX.out.c1'
  have hlt := HX.out.lt
  obtain ⟨y0, y1, y2, y3, y4, y5, y6⟩ := (Blk.new w 34 #[.int .i64 p', .int .i64 m', .bool s', .int .u64 (h' : Int), .int .u64 (l' : Int), .int .i64 o', .bool a']).c7
  clear hx
  go_enter Tryz.func46, Tryz.ntmps46
  unfold paV
  go_wp2_with fail
  go_ret
  exact ⟨retb (show (p' == q) = decide (p' = q) by by_cases h : p' = q <;> simp [h]), HF.out⟩
set_option maxHeartbeats 3200000 in
set_option maxRecDepth 100000 in
theorem idxQ_ (gx : Nat) (q : Int) (A : Option Addr) (n c : Nat) (l : List Pa) (ho : Own w 34 7 A n c (flat l)) (hn : l.length = n) (hl : n < 1000000) (p : Nat) (hp : p ≤ n)
    (hbefore : ∀ j y, j < p → l[j]? = some y → y.proto ≠ q) (hat : ∀ y, l[p]? = some y → y.proto = q) (r : Int) (hr : r = if p < n then (p : Int) else -1)
    (hx : Blk w gx 3 #[.int .i64 q]) :
    Calls Tryz.prog 61 #[.slice A n c, .func (.func 46) #[] #[.pointer (some ⟨gx, 0, none⟩)]] w fun e w' => e = .returned (.int .i64 r) ∧ Fr N0 w w' := by
  have HO := Lib.hid ho
  have HX := Lib.hid hx
  have HBE := Lib.hid hbefore
  have HAT := Lib.hid hat
  have HN := Lib.hid hn
  have HR := Lib.hid hr
  clear ho hx hbefore hat hn hr
  have eg : ∀ args w, (callFunc 46 args).run Tryz.prog w = .ok (.enter 46 args) w := enters_of Tryz.func46 (by kernel_rfl) rfl
  go_enter Tryz.func61, Tryz.ntmps61
  go_wp2_with fail
  go_loopw [8] (fun i wr => ∃ j : Nat, j ≤ p ∧ i = .int .i64 (j : Int) ∧ Fr N0 w wr) (fun i _ => p + 1 - (intOf i).toNat)
  case atStart => exact ⟨0, Nat.zero_le _, rfl, Fr.refl _ _⟩
  case round =>
    obtain ⟨j, hj, rfl, hF⟩ := hrel
    by_cases hjn : j < n
    · have ho := HO.out.fr hF fun _ _ => id
      obtain ⟨g, rfl⟩ := ho.some_ (by omega)
      obtain ⟨u, hu⟩ : ∃ u, l[j]? = some u := ⟨_, List.getElem?_eq_getElem (by have := HN.out; omega)⟩
      obtain ⟨g0, g1, g2, g3, g4, g5, g6⟩ := ho.e7 HN.out hu
      have HF := Lib.hid hF
      have k49 := fl1_ (w := wr) gx q u (HX.out.fr hF id)
      have HU := Lib.hid hu
      have hjI : (j : Int) < (n : Int) := by omega
      unfold paV at k49
      clear hF hu ho
      by_cases hjp : j < p
      · rw [decide_eq_false (HBE.out j u hjp HU.out)] at k49
        go_wp2_with fail
        refine k49.mono ?_
        rintro e w2 ⟨rfl, f2⟩
        have HF2 := Lib.hid (HF.out.trans f2)
        clear f2 g0 g1 g2 g3 g4 g5 g6
        go_wp2_with fail
        go_roundw
        case rel => exact ⟨j + 1, by omega, by go_num, HF2.out⟩
        case measure => simp [intOf]; omega
      · obtain rfl : j = p := by omega
        rw [decide_eq_true (HAT.out u HU.out)] at k49
        have HRR := Lib.hid (show r = (j : Int) by rw [HR.out, if_pos hjn])
        go_wp2_with fail
        refine k49.mono ?_
        rintro e w2 ⟨rfl, f2⟩
        have HF2 := Lib.hid (HF.out.trans f2)
        clear f2 g0 g1 g2 g3 g4 g5 g6
        go_wp2_with fail
        go_ret
        exact ⟨by rw [HRR.out]; rfl, HF2.out⟩
    · have HRR := Lib.hid (show r = -1 by rw [HR.out, if_neg (by omega)])
      have hjI : ¬ ((j : Int) < (n : Int)) := by omega
      have HF := Lib.hid hF
      clear hF
      go_wp2_with fail
      go_ret
      exact ⟨by rw [HRR.out]; rfl, HF.out⟩
set_option maxHeartbeats 3200000 in
set_option maxRecDepth 100000 in
theorem dlf_no (gx : Nat) (q : Int) (A : Option Addr) (n c : Nat) (l : List Pa) (ho : Own w 34 7 A n c (flat l)) (hn : l.length = n) (hl : n < 1000000) (hx : Blk w gx 3 #[.int .i64 q]) (hq : ∀ x ∈ l, x.proto ≠ q) :
    Calls Tryz.prog 45 #[.slice A n c, .func (.func 46) #[] #[.pointer (some ⟨gx, 0, none⟩)]] w fun e w' => e = .returned (.slice A n c) ∧ Fr N0 w w' := by
  have k := idxQ_ gx q A n c l ho hn hl n (Nat.le_refl _) (fun j y _ hy => hq y (List.mem_of_getElem? hy)) (fun y hy => by rw [List.getElem?_eq_none (by omega)] at hy; cases hy) (-1) (by rw [if_neg (Nat.lt_irrefl _)]) hx
  clear ho hn hx hq
  go_enter Tryz.func45, Tryz.ntmps45
  go_wp2_with fail
  refine k.mono ?_
  rintro e w2 ⟨rfl, f2⟩
  have HF := Lib.hid f2
  clear f2 k
  go_wp2_with fail
  go_ret
  exact ⟨rfl, HF.out⟩
set_option maxHeartbeats 12800000 in
set_option maxRecDepth 100000 in
theorem dlf_in (gx : Nat) (q : Int) (g n c : Nat) (l : List Pa) (ho : Own w 34 7 (some ⟨g, 0, none⟩) n c (flat l)) (hn : l.length = n) (hl : n < 1000000) (hx : Blk w gx 3 #[.int .i64 q]) (hgx : gx ≠ g) (p : Nat) (hp : p < n)
    (hbefore : ∀ j y, j < p → l[j]? = some y → y.proto ≠ q) (hat : ∀ y, l[p]? = some y → y.proto = q) :
    Calls Tryz.prog 45 #[.slice (some ⟨g, 0, none⟩) n c, .func (.func 46) #[] #[.pointer (some ⟨gx, 0, none⟩)]] w fun e w' =>
      e = .returned (.slice (some ⟨g, 0, none⟩) (noQ q l).length c) ∧ Own w' 34 7 (some ⟨g, 0, none⟩) (noQ q l).length c (flat (noQ q l)) ∧ Fr (fun i => i = g) w w' := by
  have k := idxQ_ gx q (some ⟨g, 0, none⟩) n c l ho hn hl p (by omega) hbefore hat (p : Int) (by rw [if_pos hp]) hx
  have hstart : noQ q (l.take (p + 1)) = l.take p := by
    obtain ⟨u, hu⟩ : ∃ u, l[p]? = some u := ⟨_, List.getElem?_eq_getElem (by omega)⟩
    rw [take_snoc7 hu, noQ_snoc, if_pos (hat u hu)]
    refine noQ_all fun x hm => ?_
    obtain ⟨j, hj⟩ := List.getElem?_of_mem hm
    have hjp : j < p := by have := (List.getElem?_eq_some_iff.1 hj).1; rw [List.length_take] at this; omega
    rw [List.getElem?_take, if_pos hjp] at hj
    exact hbefore j x hjp hj
  have HS := Lib.hid hstart
  have HO := Lib.hid ho
  have HX := Lib.hid hx
  have HN := Lib.hid hn
  have hpt : ((p : Int) == -1) = false := by simp
  clear ho hx hat hbefore hstart hn
  have eg : ∀ args w, (callFunc 46 args).run Tryz.prog w = .ok (.enter 46 args) w := enters_of Tryz.func46 (by kernel_rfl) rfl
  go_enter Tryz.func45, Tryz.ntmps45
  go_wp2_with fail
  refine k.mono ?_
  rintro e w2 ⟨rfl, f2⟩
  have HF := Lib.hid (show Fr (fun i => i = g) w w2 from f2.mono fun _ _ h => h.elim)
  have HO2 := Lib.hid (HO.out.fr f2 fun _ _ => id)
  clear f2 k
  go_wp2_with fail
  go_loopw [5, 6] (fun vi vj wr => ∃ (i j : Nat) (F : List Pa), F = noQ q (l.take j) ∧ F.length = i ∧ i < j ∧ j ≤ n ∧ vi = .int .i64 (i : Int) ∧ vj = .int .i64 (j : Int) ∧ Own wr 34 7 (some ⟨g, 0, none⟩) n c (flat (F ++ l.drop i)) ∧ Fr (fun i => i = g) w wr) (fun _ vj _ => n - (intOf vj).toNat)
  case atStart =>
    have hlen : (l.take p).length = p := by rw [List.length_take]; have := HN.out; omega
    exact ⟨p, p + 1, l.take p, HS.out.symm, hlen, by omega, by omega, rfl, by go_num, by rw [List.take_append_drop]; exact HO2.out, HF.out⟩
  case round =>
    obtain ⟨i, j, F, hFd, hFl, hij, hj, rfl, rfl, ho, hf⟩ := hrel
    have hFn : (F ++ l.drop i).length = n := by rw [List.length_append, List.length_drop, hFl]; have := HN.out; omega
    by_cases hjn : j < n
    · obtain ⟨u, hu⟩ : ∃ u, l[j]? = some u := ⟨_, List.getElem?_eq_getElem (by have := HN.out; omega)⟩
      have hu2 : (F ++ l.drop i)[j]? = some u := by
        rw [List.getElem?_append_right (by omega), List.getElem?_drop, hFl, show i + (j - i) = j by omega]; exact hu
      obtain ⟨x, r, hx⟩ : ∃ x r, l.drop i = x :: r := ⟨_, _, List.drop_eq_getElem_cons (by have := HN.out; omega)⟩
      have hx2 : (F ++ l.drop i)[i]? = some x := by rw [hx, List.getElem?_append_right (by omega), hFl, Nat.sub_self]; rfl
      obtain ⟨g0, g1, g2, g3, g4, g5, g6⟩ := ho.e7 hFn hu2
      have hgl := ho.lt rfl
      obtain ⟨⟨p', m', ⟨s', h', l'⟩, o', a'⟩, hue⟩ : ∃ y : Pa, u = y := ⟨_, rfl⟩
      subst hue
      simp only at g0 g1 g2 g3 g4 g5 g6
      have HNW := Lib.hid (Blk.new wr 34 #[.int .i64 p', .int .i64 m', .bool s', .int .u64 (h' : Int), .int .u64 (l' : Int), .int .i64 o', .bool a'])
      have f0 := (Fr.refl N0 wr).alloc (.cells #[.int .i64 p', .int .i64 m', .bool s', .int .u64 (h' : Int), .int .u64 (l' : Int), .int .i64 o', .bool a'] 34)
      have k1 := fl1_ (w := wr.alloc (.cells #[.int .i64 p', .int .i64 m', .bool s', .int .u64 (h' : Int), .int .u64 (l' : Int), .int .i64 o', .bool a'] 34)) gx q ⟨p', m', ⟨s', h', l'⟩, o', a'⟩ ((HX.out.fr hf hgx).fr f0 id)
      have HF0 := Lib.hid f0
      have HOW := Lib.hid ho
      have HF3 := Lib.hid hf
      have HU := Lib.hid hu
      have HFD := Lib.hid hFd
      have HFL := Lib.hid hFl
      have HFN := Lib.hid hFn
      have HXR := Lib.hid hx
      have HX2 := Lib.hid hx2
      have hne : wr.heap.size ≠ g := by omega
      have hjI : (j : Int) < (n : Int) := by omega
      unfold paV at k1
      simp only at k1
      clear ho hf hu hFd hFl hx hx2 hu2 f0 hFn
      by_cases hD : p' = q
      · have HFD2 := Lib.hid (show F = noQ q (l.take (j + 1)) by rw [take_snoc7 HU.out, noQ_snoc, if_pos hD]; exact HFD.out)
        rw [decide_eq_true hD] at k1
        clear hD
        go_wp2_with fail
        refine k1.mono ?_
        rintro e w5 ⟨rfl, f5⟩
        have HO6 := Lib.hid (HOW.out.fr (HF0.out.trans f5) fun _ _ => id)
        have HF6 := Lib.hid (HF3.out.trans ((HF0.out.trans f5).mono fun _ _ h => h.elim))
        clear f5 g0 g1 g2 g3 g4 g5 g6
        go_wp2_with fail
        go_roundw
        case rel => exact ⟨i, j + 1, F, HFD2.out, HFL.out, by omega, by omega, rfl, by go_num, HO6.out, HF6.out⟩
        case measure => simp [intOf]; omega
      · have HFD2 := Lib.hid (show F ++ [⟨p', m', ⟨s', h', l'⟩, o', a'⟩] = noQ q (l.take (j + 1)) by rw [take_snoc7 HU.out, noQ_snoc, if_neg hD, HFD.out])
        rw [decide_eq_false hD] at k1
        clear hD
        go_wp2_with fail
        refine k1.mono ?_
        rintro e w5 ⟨rfl, f5⟩
        clear g0 g1 g2 g3 g4 g5 g6
        have ho5 := HOW.out.fr (HF0.out.trans f5) fun _ _ => id
        obtain ⟨y0, y1, y2, y3, y4, y5, y6⟩ := (HNW.out.fr f5 id).c7
        obtain ⟨x0, x1, x2, x3, x4, x5, x6⟩ := ho5.e7 HFN.out HX2.out
        have z0 := ho5.cell_none (i * 7)
        have z1 := ho5.cell_none (i * 7 + 1)
        have z2 := ho5.cell_none (i * 7 + 2)
        have z3 := ho5.cell_none (i * 7 + 3)
        have z4 := ho5.cell_none (i * 7 + 4)
        have z5 := ho5.cell_none (i * 7 + 5)
        have z6 := ho5.cell_none (i * 7 + 6)
        have hin : (F ++ l.drop i).length = n := HFN.out
        have hnew : ((F ++ l.drop i).set i ⟨p', m', ⟨s', h', l'⟩, o', a'⟩) = (F ++ [⟨p', m', ⟨s', h', l'⟩, o', a'⟩]) ++ l.drop (i + 1) := by
          have h2 : l.drop (i + 1) = r := by
            have h3 := congrArg List.tail HXR.out
            rw [List.tail_drop] at h3
            exact h3
          rw [h2, HXR.out, List.set_append_right _ _ (by have := HFL.out; omega), HFL.out, Nat.sub_self]
          simp
        have ho6 := ho5.put (i := i) (by rw [hin]; omega) ⟨p', m', ⟨s', h', l'⟩, o', a'⟩
        rw [hnew] at ho6
        have hf6 : Fr (fun k => k = g) w (w5.setCells g (i * 7) (Pa.cs ⟨p', m', ⟨s', h', l'⟩, o', a'⟩)) := Fr.setsC _ _ (HF3.out.trans ((HF0.out.trans f5).mono fun _ _ h => h.elim)) (.inl rfl)
        have ho6' : Own (w5.setCells g (i * 7) (Pa.cs ⟨p', m', ⟨s', h', l'⟩, o', a'⟩)) 34 7 (some ⟨g, 0, none⟩) n c (flat ((F ++ [⟨p', m', ⟨s', h', l'⟩, o', a'⟩]) ++ l.drop (i + 1))) := ho6
        rw [sets7] at ho6' hf6
        have HO6 := Lib.hid ho6'
        have HF6 := Lib.hid hf6
        have HFL2 := Lib.hid (show (F ++ [(⟨p', m', ⟨s', h', l'⟩, o', a'⟩ : Pa)]).length = i + 1 by rw [List.length_append, HFL.out]; rfl)
        clear ho6 ho6' hf6 hnew ho5 hin f5
        go_wp2_with fail
        go_roundw
        case rel => exact ⟨i + 1, j + 1, F ++ [⟨p', m', ⟨s', h', l'⟩, o', a'⟩], HFD2.out, HFL2.out, by omega, by omega, by go_num, by go_num, HO6.out, HF6.out⟩
        case measure => simp [intOf]; omega
    · obtain rfl : j = n := by omega
      have hFn2 : F = noQ q l := by rw [hFd, List.take_of_length_le (by have := HN.out; omega)]
      obtain ⟨w6, hrun, ho6, hf6⟩ := clear_from ho (i := i) (by omega) 0
      rw [flat_take, List.take_append_of_le_length (by omega), List.take_of_length_le (by omega), hFn2] at ho6
      have HG := Lib.hid ho6
      have HF6 := Lib.hid (hf.trans hf6)
      have HI6 := Lib.hid (show i = (noQ q l).length by rw [← hFn2, hFl])
      have hc := ho.len_le
      have hic : i ≤ c := by omega
      have hnec : ¬ c = i := by omega
      have hjI : ¬ ((j : Int) < (j : Int)) := by omega
      clear ho6 hf6 ho hf hFn2 hFd hFl hFn
      go_wp2_with fail
      go_ret
      rw [← HI6.out]
      exact ⟨rfl, HG.out, HF6.out⟩
/-- Whatever stands there. -/
theorem dlf_ (gx : Nat) (q : Int) (g n c : Nat) (l : List Pa) (ho : Own w 34 7 (some ⟨g, 0, none⟩) n c (flat l)) (hn : l.length = n) (hl : n < 1000000) (hx : Blk w gx 3 #[.int .i64 q]) (hgx : gx ≠ g) :
    Calls Tryz.prog 45 #[.slice (some ⟨g, 0, none⟩) n c, .func (.func 46) #[] #[.pointer (some ⟨gx, 0, none⟩)]] w fun e w' =>
      e = .returned (.slice (some ⟨g, 0, none⟩) (noQ q l).length c) ∧ Own w' 34 7 (some ⟨g, 0, none⟩) (noQ q l).length c (flat (noQ q l)) ∧ Fr (fun i => i = g) w w' := by
  obtain ⟨p, hp, h1, h2⟩ := noQ_find q l
  rcases Nat.lt_or_ge p n with k | k
  · exact dlf_in gx q g n c l ho hn hl hx hgx p k h1 h2
  · have hq : ∀ x ∈ l, x.proto ≠ q := fun x hx => by
      obtain ⟨j, hj⟩ := List.getElem?_of_mem hx
      exact h1 j x (by have := (List.getElem?_eq_some_iff.1 hj).1; omega) hj
    refine (dlf_no gx q _ n c l ho hn hl hx hq).mono fun e w' ⟨he, hf⟩ => ?_
    rw [noQ_all hq, hn]
    exact ⟨he, ho.fr hf fun _ _ => id, hf.mono fun _ _ h => h.elim⟩
end
end Go.Proofs.YtnklbeigikcfkaaGreatDoor
namespace Go.Proofs.YtnklbeigikcfkaaGreatDoor
open Go.Proofs Go.RowKit Go.ChangeShapes Go.WideShapes
open Go.Maps (Keyed)
/-- Those of one who tells are gone from some prefixes. -/
def flK (q : Int) (S : List Px) (L : List Td) : List Td := L.filter fun u => !(decide (u.1 ∈ S) && decide (u.2.proto = q))
theorem flK_nil (q : Int) (L : List Td) : flK q [] L = L := List.filter_eq_self.2 fun u _ => by simp
theorem flK_all (q : Int) (L : List Td) : flK q (prefsT L) L = flushT L q := by
  unfold flK flushT
  refine List.filter_congr fun u hu => ?_
  have : u.1 ∈ prefsT L := mem_prefsT.2 ⟨u.2, hu⟩
  simp [this]
theorem flK_at {q : Int} {S : List Px} {p : Px} (h : p ∈ S) (L : List Td) : pathsT (flK q S L) p = noQ q (pathsT L p) := by
  unfold flK noQ
  rw [pathsT_filter]
  refine List.filter_congr fun x _ => ?_
  simp [h]
theorem flK_no {q : Int} {S : List Px} {p : Px} (h : p ∉ S) (L : List Td) : pathsT (flK q S L) p = pathsT L p := by
  unfold flK
  rw [pathsT_filter]
  refine List.filter_eq_self.2 fun x _ => ?_
  simp [h]
theorem flK_ne {q : Int} {S : List Px} {p p' : Px} (h : p' ≠ p) (L : List Td) : pathsT (flK q (S ++ [p]) L) p' = pathsT (flK q S L) p' := by
  by_cases k : p' ∈ S
  · rw [flK_at k, flK_at (List.mem_append_left _ k)]
  · rw [flK_no k, flK_no]
    intro hm
    rcases List.mem_append.1 hm with hm | hm
    · exact k hm
    · exact h (List.mem_singleton.1 hm)
theorem noQ_len (L : List Td) (q : Int) : (flushT L q).length ≤ L.length := List.length_filter_le _ _
theorem Own.e4 {w : World} {e : TypeId} {g n c : Nat} {l : List Px} (h : Own w e 4 (some ⟨g, 0, none⟩) n c (flat l)) (hn : l.length = n) {j : Nat} {x : Px} (hj : l[j]? = some x) :
    w.cell? ⟨g, j * 4, none⟩ = some (.bool x.ad.six) ∧ w.cell? ⟨g, j * 4 + 1, none⟩ = some (.int .u64 (x.ad.hi : Int)) ∧ w.cell? ⟨g, j * 4 + 2, none⟩ = some (.int .u64 (x.ad.lo : Int)) ∧ w.cell? ⟨g, j * 4 + 3, none⟩ = some (.int .i64 x.bits) :=
  ⟨h.elem hn hj 0 (by decide), h.elem hn hj 1 (by decide), h.elem hn hj 2 (by decide), h.elem hn hj 3 (by decide)⟩
section
variable {w : World}
/-- What stands when k prefixes were gone through. -/
structure FlI (w wr : World) (r : Nat) (Ft : Nat → Prop) (L : List Td) (q : Int) (A : Option Addr) (n c gx k : Nat) : Prop where
  rib : ∃ F', RibIs wr r F' (flK q ((prefsT L).take k) L) ∧ (∀ i, F' i → Ft i ∨ w.heap.size ≤ i) ∧ (∀ g, A = some ⟨g, 0, none⟩ → ¬ F' g) ∧ ¬ F' gx
  own : Own wr 32 4 A n c (flat (prefsT L))
  box : Blk wr gx 3 #[.int .i64 q]
  fr : Fr Ft w wr
set_option maxHeartbeats 12800000 in
set_option maxRecDepth 100000 in
theorem fls_ (r : Nat) (Ft : Nat → Prop) (L : List Td) (q : Int) (h : RibIs w r Ft L) :
    Calls Tryz.prog 22 #[.pointer (some ⟨r, 0, none⟩), .int .i64 q] w fun e w' => e = .returned (.int .i64 ((L.length : Int) - ((flushT L q).length : Int))) ∧ RibTo w r Ft (flushT L q) w' := by
  have HH := Lib.hid h
  have hb1 := Blk.new w 3 #[.int .i64 q]
  have f1 := (Fr.refl N0 w).alloc (.cells #[.int .i64 q] 3)
  have k1 := cnt_ (w := w.alloc (.cells #[.int .i64 q] 3)) r Ft L (h.n0 f1)
  have hgx : ¬ Ft w.heap.size := fun hf => by have := h.lt _ hf; omega
  have HL := Lib.hid (len_le h.row)
  have HB := Lib.hid hb1
  have HF := Lib.hid f1
  have HGX := Lib.hid hgx
  have HGXN := Lib.hid (show w.heap.size ≤ w.heap.size from Nat.le_refl _)
  clear h hb1 f1 hgx
  go_enter Tryz.func22, Tryz.ntmps22
  go_wp2_with fail
  generalize w.alloc (.cells #[.int .i64 q] 3) = w1 at *
  obtain ⟨gx, hgx⟩ : ∃ g, g = w.heap.size := ⟨_, rfl⟩
  rw [← hgx] at HB HGX ⊢
  clear hgx
  refine k1.mono ?_
  rintro e w2 ⟨rfl, hf2⟩
  have HF2 := Lib.hid (HF.out.trans hf2)
  have HB2 := Lib.hid (HB.out.fr hf2 id)
  have k2 := prf_ r Ft L (HH.out.n0 HF2.out)
  clear hf2 k1
  go_wp2_with fail
  refine k2.mono ?_
  rintro e w3 ⟨v, rfl, A, c, rfl, ho, hf, hn⟩
  obtain ⟨n, hnl⟩ : ∃ n, n = (prefsT L).length := ⟨_, rfl⟩
  rw [← hnl] at ho ⊢
  have HNL := Lib.hid hnl
  have HFI := Lib.hid (show FlI w w3 r Ft L q A n c gx 0 from
    ⟨⟨Ft, by rw [List.take_zero, flK_nil]; exact HH.out.n0 (HF2.out.trans hf), fun _ => .inl, fun g hg hF => by
      have h1 := hn g hg
      have h2 := HH.out.lt _ hF
      have h3 := HF2.out.size
      omega, HGX.out⟩, ho, HB2.out.fr hf id, (HF2.out.trans hf).mono fun _ _ h => h.elim⟩)
  have hn90 : n ≤ 90 := by have := HH.out.row.many; omega
  clear ho hf hn hnl k2
  go_wp2_with fail
  go_loopw [13] (fun vi wr => ∃ k : Nat, k ≤ n ∧ vi = .int .i64 (k : Int) ∧ FlI w wr r Ft L q A n c gx k) (fun vi _ => n - (intOf vi).toNat)
  case atStart => exact ⟨0, Nat.zero_le _, rfl, HFI.out⟩
  case round =>
    obtain ⟨k, hk, rfl, hI⟩ := hrel
    clear HFI
    by_cases hkn : k < n
    · obtain ⟨⟨F', hR', hsub, hA, hgx'⟩, ho, hbx, hfr⟩ := hI
      obtain ⟨g, rfl⟩ := ho.some_ (by omega)
      obtain ⟨p, hp⟩ : ∃ p, (prefsT L)[k]? = some p := ⟨_, List.getElem?_eq_getElem (by have := HNL.out; omega)⟩
      obtain ⟨y0, y1, y2, y3⟩ := ho.e4 HNL.out.symm hp
      have hgl := ho.lt rfl
      have hpm := List.mem_of_getElem? hp
      have hpok := (HH.out.row.px hpm).1
      have hpno : p ∉ (prefsT L).take k := by
        intro hm
        obtain ⟨j, hj⟩ := List.getElem?_of_mem hm
        have hjk : j < k := by have := (List.getElem?_eq_some_iff.1 hj).1; rw [List.length_take] at this; omega
        rw [List.getElem?_take, if_pos hjk] at hj
        have hup := prefsT_up HH.out.row.up
        rw [List.pairwise_iff_getElem] at hup
        obtain ⟨h1a, h1b⟩ := List.getElem?_eq_some_iff.1 hj
        obtain ⟨h2a, h2b⟩ := List.getElem?_eq_some_iff.1 hp
        have := hup j k h1a h2a hjk
        rw [h1b, h2b, ltP_irrefl] at this
        cases this
      have hpt : pathsT (flK q ((prefsT L).take k) L) p = pathsT L p := flK_no hpno L
      have htk : (prefsT L).take (k + 1) = (prefsT L).take k ++ [p] := by
        obtain ⟨hj, e⟩ := List.getElem?_eq_some_iff.1 hp
        rw [List.take_succ_eq_append_getElem hj, e]
      obtain ⟨b, M, hBR, hM, hRM, hFb⟩ := hR'.mem
      obtain ⟨A2, n2, c2, K⟩ := look_at (b := b) hRM p hpok
      have hlen := K.len
      obtain ⟨k2, g2, hk2, rfl, hFg2, hn2⟩ : ∃ (k2 g2 : Nat), M[k2]? = some (p, (A2, n2, c2)) ∧ A2 = some ⟨g2, 0, none⟩ ∧ F' g2 ∧ 0 < n2 := by
        rcases K.how with h | ⟨_, _, h, _⟩
        · exact h
        · rw [h, hpt] at hlen
          exact absurd (List.length_eq_zero_iff.1 hlen) (paths_prefs.2 hpm)
      have hn24 : n2 ≤ 4 := by have := hR'.row.four p; omega
      have hg2g : g2 ≠ g := fun e => hA g rfl (e ▸ hFg2)
      have hbg : b ≠ g := fun e => hA g rfl (e ▸ hFb)
      have hg2x : gx ≠ g2 := fun e => hgx' (e ▸ hFg2)
      have hbx2 : gx ≠ b := fun e => hgx' (e ▸ hFb)
      have hgb : b ≠ g2 := fun e => own_ne_map K.own hM e.symm
      have hgr : r ≠ g2 := fun e => own_ne_other K.own hBR (by decide) e.symm
      have HR' := Lib.hid hR'
      have HSUB := Lib.hid hsub
      have HA := Lib.hid hA
      have HGX' := Lib.hid hgx'
      have HO := Lib.hid ho
      have HBX := Lib.hid hbx
      have HFR := Lib.hid hfr
      have HP := Lib.hid hp
      have HPT := Lib.hid hpt
      have HTK := Lib.hid htk
      have HBR := Lib.hid hBR
      have HM := Lib.hid hM
      have HRM := Lib.hid hRM
      have HFB := Lib.hid hFb
      have HK := Lib.hid K
      have HKK := Lib.hid hk2
      have HFG2 := Lib.hid hFg2
      have HG2G := Lib.hid hg2g
      have HBG := Lib.hid hbg
      have HGXB := Lib.hid hbx2
      have HGX2 := Lib.hid hg2x
      have HGB := Lib.hid hgb
      have KD := Lib.hid (show ∀ (W : World), Fr N0 wr W → Calls Tryz.prog 45 #[.slice (some ⟨g2, 0, none⟩) n2 c2, .func (.func 46) #[] #[.pointer (some ⟨gx, 0, none⟩)]] W fun e w' =>
          ∃ n', e = .returned (.slice (some ⟨g2, 0, none⟩) n' c2) ∧ Own w' 34 7 (some ⟨g2, 0, none⟩) n' c2 (flat (noQ q (pathsT (flK q ((prefsT L).take k) L) p))) ∧ Fr (fun i => i = g2) W w'
        from fun W hW => (dlf_ (w := W) gx q g2 n2 c2 (pathsT (flK q ((prefsT L).take k) L) p) (HK.out.own.fr hW fun _ _ => id) HK.out.len (by omega) (HBX.out.fr hW id) HGX2.out).mono fun e w' h => ⟨_, h⟩)
      have KK := Lib.hid fun (W : World) (hW : Fr (fun j => j = g2) wr W) (n' c' : Nat) => keep_ (w := W) r b k2 M p (some ⟨g2, 0, none⟩, n2, c2) (some ⟨g2, 0, none⟩) n' c' (HBR.out.fr hW hgr) (HM.out.fr hW hgb) HKK.out
      have hkI : (k : Int) < (n : Int) := by omega
      have hg2w := hR'.lt _ hFg2
      have HGR := Lib.hid hgr
      clear hR' hsub hA hgx' ho hbx hfr hp hpt htk hBR hM hRM hFb K hk2 hFg2 hg2g hbg hbx2 hg2x hgb hgr hpno hpm hpok hlen
      obtain ⟨⟨s, h1, l⟩, m⟩ := p
      unfold pxV at KK
      simp only at y0 y1 y2 y3 KK
      have hlook := HK.out.look ((wr.alloc (.cells #[.bool s, .int .u64 (h1 : Int), .int .u64 (l : Int), .int .i64 m] 32)).drew) ((HM.out.alloc _).drewN 1)
      unfold pxV at hlook
      simp only at hlook
      have cr := (HBR.out.alloc (.cells #[.bool s, .int .u64 (h1 : Int), .int .u64 (l : Int), .int .i64 m] 32)).c1'
      have hltr := (HBR.out.alloc (.cells #[.bool s, .int .u64 (h1 : Int), .int .u64 (l : Int), .int .i64 m] 32)).lt
      have HZ := Lib.hid (Blk.new wr 32 #[.bool s, .int .u64 (h1 : Int), .int .u64 (l : Int), .int .i64 m])
      have HFA := Lib.hid ((Fr.refl N0 wr).alloc (.cells #[.bool s, .int .u64 (h1 : Int), .int .u64 (l : Int), .int .i64 m] 32))
      obtain ⟨x0, x1, x2, x3⟩ := HZ.out.c4
      go_wp2_with fail
      generalize wr.alloc (.cells #[.bool s, .int .u64 (h1 : Int), .int .u64 (l : Int), .int .i64 m] 32) = w4 at *
      have hzg : wr.heap.size ≠ g2 := by omega
      have hzb : wr.heap.size ≠ b := by have := HM.out.lt; omega
      have HGRB := Lib.hid (show ¬ (r = g2 ∨ r = b) from fun k => k.elim HGR.out (blk_ne_map HBR.out HM.out))
      generalize wr.heap.size = gz at *
      clear y0 y1 y2 y3
      have hzgb : ¬ (gz = g2 ∨ gz = b) := fun k => k.elim hzg hzb
      have F4 := Lib.hid (HFA.out.mono (S' := fun j => j = g2 ∨ j = b) fun _ _ h => h.elim)
      have HS4 := Lib.hid (show ∀ w', Fr (fun j => j = g2 ∨ j = b) w4 w' → (w'.cell? ⟨r, 0, none⟩ = some (.map (some b)) ∧ w'.cell? ⟨gz, 0, none⟩ = some (.bool s) ∧ w'.cell? ⟨gz, 1, none⟩ = some (.int .u64 (h1 : Int)) ∧ w'.cell? ⟨gz, 2, none⟩ = some (.int .u64 (l : Int)) ∧ w'.cell? ⟨gz, 3, none⟩ = some (.int .i64 m)) from fun W hW => by
        obtain ⟨k0, k1, k2, k3⟩ := (HZ.out.fr hW hzgb).c4
        exact ⟨((HBR.out.fr F4.out HGRB.out).fr hW HGRB.out).c1', k0, k1, k2, k3⟩)
      have FC := Lib.hid (Fr.refl (fun j => j = g2 ∨ j = b) w4)
      go_region_held3 (fun w' => w'.cell? ⟨r, 0, none⟩ = some (.map (some b)) ∧ w'.cell? ⟨gz, 0, none⟩ = some (.bool s) ∧ w'.cell? ⟨gz, 1, none⟩ = some (.int .u64 (h1 : Int)) ∧ w'.cell? ⟨gz, 2, none⟩ = some (.int .u64 (l : Int)) ∧ w'.cell? ⟨gz, 3, none⟩ = some (.int .i64 m)) (first | go_keep | exact HS4.out _ (by repeat first | exact FC.out | refine Fr.drew ?_ | refine Fr.drewN ?_ _)) ((first
        | (go_at_call 45; (with_reducible refine (KD.out _ (HFA.out.trans (by repeat first | exact Fr.refl _ _ | refine Fr.drew ?_ | refine Fr.drewN ?_ _))).mono ?_); rintro e w5 ⟨n3, rfl, hod, hfd⟩; have HOD := Lib.hid hod; have HFG := Lib.hid (Fr.trans ((HFA.out.mono (S' := fun j => j = g2) fun _ _ h => h.elim).trans (by repeat first | exact Fr.refl _ _ | refine Fr.drew ?_ | refine Fr.drewN ?_ _)) hfd : Fr (fun j => j = g2) wr _); have FC := Lib.hid (Fr.trans (by repeat first | exact FC.out | refine Fr.drew ?_ | refine Fr.drewN ?_ _) (hfd.mono (S' := fun j => j = g2 ∨ j = b) fun _ _ h => .inl h) : Fr (fun j => j = g2 ∨ j = b) w4 _); clear hod hfd)
        | (go_at_call 43; (with_reducible refine (KK.out _ (HFG.out) _ _).mono ?_); rintro e w6 ⟨rfl, hMk, hfk⟩; have FC := Lib.hid (FC.out.trans (hfk.mono (S' := fun j => j = g2 ∨ j = b) fun _ _ h => .inr h)))))
      all_goals
        have hF6 : Fr (fun j => j = g2 ∨ j = b) wr w6 := F4.out.trans FC.out
        have HFI2 := Lib.hid (show FlI w w6 r Ft L q (some ⟨g, 0, none⟩) n c gx (k + 1) from by
          obtain ⟨F'', hR2, hs2, hf2⟩ := HR'.out.kept (L' := flK q ((prefsT L).take (k + 1)) L) HBR.out HM.out HRM.out HFB.out HKK.out hF6 hMk (by
            rw [HTK.out, flK_at (List.mem_append_right _ List.mem_cons_self), ← HPT.out]
            exact HOD.out.fr hfk fun j hj (hb : j = b) => by cases hj; exact HGB.out hb.symm) (HH.out.row.drop' _) (fun p' hp' => by rw [HTK.out]; exact flK_ne hp' L)
          have hgw := HO.out.lt rfl
          have hxw := HBX.out.lt
          refine ⟨⟨F'', hR2, fun i hi => ?_, fun g' e hg' => ?_, fun hx => ?_⟩, HO.out.fr hF6 fun j hj hb => ?_, HBX.out.fr hF6 fun hb => ?_, HFR.out.step hf2 HSUB.out⟩
          · rcases hs2 i hi with h | h
            · exact HSUB.out i h
            · exact .inr (Nat.le_trans HFR.out.size h)
          · cases e
            rcases hs2 _ hg' with h | h
            · exact HA.out _ rfl h
            · omega
          · rcases hs2 _ hx with h | h
            · exact HGX'.out h
            · omega
          · cases hj
            rcases hb with h | h
            · exact HG2G.out h.symm
            · exact HBG.out h.symm
          · rcases hb with h | h
            · exact HGX2.out h
            · exact HGXB.out h)
        clear hMk hfk hF6
        go_wp2_with fail
        go_roundw
        case rel => exact ⟨k + 1, by omega, by go_num, HFI2.out⟩
        case measure => simp [intOf]; omega
    · obtain rfl : k = n := by omega
      obtain ⟨⟨F', hR', hsub, hA, hgx'⟩, ho, hbx, hfr⟩ := hI
      rw [List.take_of_length_le (by have := HNL.out; omega), flK_all] at hR'
      have k5 := cnt_ r F' _ hR'
      have HR' := Lib.hid hR'
      have HSUB := Lib.hid hsub
      have HFR := Lib.hid hfr
      have hnl := noQ_len L q
      have hl3 := HL.out
      clear hR' hsub hA hgx' ho hbx hfr
      have hkI : ¬ ((k : Int) < (k : Int)) := by omega
      generalize hfl : (flushT L q).length = m at *
      have HFL := Lib.hid hfl
      clear hfl
      have hwr : IntKind.i64.wrap ((L.length : Int) - (m : Int)) = (L.length : Int) - (m : Int) := IntWalk.i64_in _ (by omega)
      generalize hz : L.length = z at *
      have HZL := Lib.hid hz
      clear hz
      go_wp2_with fail
      refine k5.mono ?_
      rintro e w5 ⟨rfl, hf5⟩
      go_wp2_with fail
      go_ret
      exact ⟨by rw [HZL.out, HFL.out]; rfl, F', HR'.out.n0 hf5, HSUB.out, HFR.out.trans (hf5.mono fun _ _ h => h.elim)⟩
end
end Go.Proofs.YtnklbeigikcfkaaGreatDoor
