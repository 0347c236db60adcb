/- slices.DeleteFunc at paths: those of one who tells go. -/
import Derived.Test.YtnklbeigikcfkaaDoorQc
import Derived.Test.YtnklbeigikcfkaaDoorWy
namespace Go.Proofs.YtnklbeigikcfkaaDoor
open Go.Proofs Go.RowKit
def noQ (q : Int) (l : List Pa) : List Pa := l.filter fun x => decide (x.proto ≠ q)
theorem noQ_le (q : Int) (l : List Pa) : (noQ q l).length ≤ l.length := List.length_filter_le _ _
theorem noQ_snoc (q : Int) (u : Pa) (l : List Pa) : noQ q (l ++ [u]) = if u.proto = q then noQ q l else noQ q l ++ [u] := by
  unfold noQ
  rw [List.filter_append]
  by_cases h : u.proto = q <;> simp [h]
theorem noQ_all {q : Int} {l : List Pa} (h : ∀ x ∈ l, x.proto ≠ q) : noQ q l = l := List.filter_eq_self.2 fun u hu => decide_eq_true (h u hu)
theorem take_snoc7 {l : List Pa} {j : Nat} {u : Pa} (h : l[j]? = some u) : l.take (j + 1) = l.take j ++ [u] := by
  obtain ⟨hj, e⟩ := List.getElem?_eq_some_iff.1 h
  rw [List.take_succ_eq_append_getElem hj, e]
theorem noQ_find (q : Int) : ∀ l : List Pa, ∃ p, p ≤ l.length ∧ (∀ j y, j < p → l[j]? = some y → y.proto ≠ q) ∧ (∀ y, l[p]? = some y → y.proto = q)
  | [] => ⟨0, Nat.le_refl _, fun _ _ h => absurd h (by omega), fun y h => by simp at h⟩
  | a :: r => by
    by_cases h : a.proto = q
    · exact ⟨0, by omega, fun _ _ h => absurd h (by omega), fun y hy => by simp only [List.getElem?_cons_zero, Option.some.injEq] at hy; exact hy ▸ h⟩
    · obtain ⟨p, h1, h2, h3⟩ := noQ_find q r
      refine ⟨p + 1, by simp only [List.length_cons]; omega, fun j y hj hy => ?_, fun y hy => h3 y (by simpa using hy)⟩
      cases j with
      | zero => simp only [List.getElem?_cons_zero, Option.some.injEq] at hy; exact hy ▸ h
      | succ j => exact h2 j y (by omega) (by simpa using hy)
section
variable {w : World}
set_option maxHeartbeats 3200000 in
set_option maxRecDepth 100000 in
theorem fl1_ (gx : Nat) (q : Int) (y : Pa) (hx : Blk w gx 3 #[.int .i64 q]) :
    Calls Tryd.prog 41 #[paV y, .pointer (some ⟨gx, 0, none⟩)] w fun e w' => e = .returned (.bool (decide (y.proto = q))) ∧ Fr N0 w w' := by
  obtain ⟨p', m', ⟨s', h', l'⟩, o', a'⟩ := y
  simp only at *
  have HX := Lib.hid (hx.alloc (.cells #[.int .i64 p', .int .i64 m', .bool s', .int .u64 (h' : Int), .int .u64 (l' : Int), .int .i64 o', .bool a'] 26))
  have HF := Lib.hid ((Fr.refl N0 w).alloc (.cells #[.int .i64 p', .int .i64 m', .bool s', .int .u64 (h' : Int), .int .u64 (l' : Int), .int .i64 o', .bool a'] 26))
  have x0 := HX.out.c1'
  have hlt := HX.out.lt
  obtain ⟨y0, y1, y2, y3, y4, y5, y6⟩ := (Blk.new w 26 #[.int .i64 p', .int .i64 m', .bool s', .int .u64 (h' : Int), .int .u64 (l' : Int), .int .i64 o', .bool a']).c7
  clear hx
  go_enter Tryd.func41, Tryd.ntmps41
  unfold paV
  go_wp2_with fail
  go_ret
  exact ⟨retb (show (p' == q) = decide (p' = q) by by_cases h : p' = q <;> simp [h]), HF.out⟩
set_option maxHeartbeats 3200000 in
set_option maxRecDepth 100000 in
theorem idxQ_ (gx : Nat) (q : Int) (A : Option Addr) (n c : Nat) (l : List Pa) (ho : Own w 26 7 A n c (flat l)) (hn : l.length = n) (hl : n < 1000000) (p : Nat) (hp : p ≤ n)
    (hbefore : ∀ j y, j < p → l[j]? = some y → y.proto ≠ q) (hat : ∀ y, l[p]? = some y → y.proto = q) (r : Int) (hr : r = if p < n then (p : Int) else -1)
    (hx : Blk w gx 3 #[.int .i64 q]) :
    Calls Tryd.prog 48 #[.slice A n c, .func (.func 41) #[] #[.pointer (some ⟨gx, 0, none⟩)]] w fun e w' => e = .returned (.int .i64 r) ∧ Fr N0 w w' := by
  have HO := Lib.hid ho
  have HX := Lib.hid hx
  have HBE := Lib.hid hbefore
  have HAT := Lib.hid hat
  have HN := Lib.hid hn
  have HR := Lib.hid hr
  clear ho hx hbefore hat hn hr
  have eg : ∀ args w, (callFunc 41 args).run Tryd.prog w = .ok (.enter 41 args) w := enters_of Tryd.func41 (by kernel_rfl) rfl
  go_enter Tryd.func48, Tryd.ntmps48
  go_wp2_with fail
  go_loopw [8] (fun i wr => ∃ j : Nat, j ≤ p ∧ i = .int .i64 (j : Int) ∧ Fr N0 w wr) (fun i _ => p + 1 - (intOf i).toNat)
  case atStart => exact ⟨0, Nat.zero_le _, rfl, Fr.refl _ _⟩
  case round =>
    obtain ⟨j, hj, rfl, hF⟩ := hrel
    by_cases hjn : j < n
    · have ho := HO.out.fr hF fun _ _ => id
      obtain ⟨g, rfl⟩ := ho.some_ (by omega)
      obtain ⟨u, hu⟩ : ∃ u, l[j]? = some u := ⟨_, List.getElem?_eq_getElem (by have := HN.out; omega)⟩
      obtain ⟨g0, g1, g2, g3, g4, g5, g6⟩ := ho.e7 HN.out hu
      have HF := Lib.hid hF
      have k49 := fl1_ (w := wr) gx q u (HX.out.fr hF id)
      have HU := Lib.hid hu
      have hjI : (j : Int) < (n : Int) := by omega
      unfold paV at k49
      clear hF hu ho
      by_cases hjp : j < p
      · rw [decide_eq_false (HBE.out j u hjp HU.out)] at k49
        go_wp2_with fail
        refine k49.mono ?_
        rintro e w2 ⟨rfl, f2⟩
        have HF2 := Lib.hid (HF.out.trans f2)
        clear f2 g0 g1 g2 g3 g4 g5 g6
        go_wp2_with fail
        go_roundw
        case rel => exact ⟨j + 1, by omega, by go_num, HF2.out⟩
        case measure => simp [intOf]; omega
      · obtain rfl : j = p := by omega
        rw [decide_eq_true (HAT.out u HU.out)] at k49
        have HRR := Lib.hid (show r = (j : Int) by rw [HR.out, if_pos hjn])
        go_wp2_with fail
        refine k49.mono ?_
        rintro e w2 ⟨rfl, f2⟩
        have HF2 := Lib.hid (HF.out.trans f2)
        clear f2 g0 g1 g2 g3 g4 g5 g6
        go_wp2_with fail
        go_ret
        exact ⟨by rw [HRR.out]; rfl, HF2.out⟩
    · have HRR := Lib.hid (show r = -1 by rw [HR.out, if_neg (by omega)])
      have hjI : ¬ ((j : Int) < (n : Int)) := by omega
      have HF := Lib.hid hF
      clear hF
      go_wp2_with fail
      go_ret
      exact ⟨by rw [HRR.out]; rfl, HF.out⟩
set_option maxHeartbeats 3200000 in
set_option maxRecDepth 100000 in
theorem dlf_no (gx : Nat) (q : Int) (A : Option Addr) (n c : Nat) (l : List Pa) (ho : Own w 26 7 A n c (flat l)) (hn : l.length = n) (hl : n < 1000000) (hx : Blk w gx 3 #[.int .i64 q]) (hq : ∀ x ∈ l, x.proto ≠ q) :
    Calls Tryd.prog 40 #[.slice A n c, .func (.func 41) #[] #[.pointer (some ⟨gx, 0, none⟩)]] w fun e w' => e = .returned (.slice A n c) ∧ Fr N0 w w' := by
  have k := idxQ_ gx q A n c l ho hn hl n (Nat.le_refl _) (fun j y _ hy => hq y (List.mem_of_getElem? hy)) (fun y hy => by rw [List.getElem?_eq_none (by omega)] at hy; cases hy) (-1) (by rw [if_neg (Nat.lt_irrefl _)]) hx
  clear ho hn hx hq
  go_enter Tryd.func40, Tryd.ntmps40
  go_wp2_with fail
  refine k.mono ?_
  rintro e w2 ⟨rfl, f2⟩
  have HF := Lib.hid f2
  clear f2 k
  go_wp2_with fail
  go_ret
  exact ⟨rfl, HF.out⟩
set_option maxHeartbeats 12800000 in
set_option maxRecDepth 100000 in
theorem dlf_in (gx : Nat) (q : Int) (g n c : Nat) (l : List Pa) (ho : Own w 26 7 (some ⟨g, 0, none⟩) n c (flat l)) (hn : l.length = n) (hl : n < 1000000) (hx : Blk w gx 3 #[.int .i64 q]) (hgx : gx ≠ g) (p : Nat) (hp : p < n)
    (hbefore : ∀ j y, j < p → l[j]? = some y → y.proto ≠ q) (hat : ∀ y, l[p]? = some y → y.proto = q) :
    Calls Tryd.prog 40 #[.slice (some ⟨g, 0, none⟩) n c, .func (.func 41) #[] #[.pointer (some ⟨gx, 0, none⟩)]] w fun e w' =>
      e = .returned (.slice (some ⟨g, 0, none⟩) (noQ q l).length c) ∧ Own w' 26 7 (some ⟨g, 0, none⟩) (noQ q l).length c (flat (noQ q l)) ∧ Fr (fun i => i = g) w w' := by
  have k := idxQ_ gx q (some ⟨g, 0, none⟩) n c l ho hn hl p (by omega) hbefore hat (p : Int) (by rw [if_pos hp]) hx
  have hstart : noQ q (l.take (p + 1)) = l.take p := by
    obtain ⟨u, hu⟩ : ∃ u, l[p]? = some u := ⟨_, List.getElem?_eq_getElem (by omega)⟩
    rw [take_snoc7 hu, noQ_snoc, if_pos (hat u hu)]
    refine noQ_all fun x hm => ?_
    obtain ⟨j, hj⟩ := List.getElem?_of_mem hm
    have hjp : j < p := by have := (List.getElem?_eq_some_iff.1 hj).1; rw [List.length_take] at this; omega
    rw [List.getElem?_take, if_pos hjp] at hj
    exact hbefore j x hjp hj
  have HS := Lib.hid hstart
  have HO := Lib.hid ho
  have HX := Lib.hid hx
  have HN := Lib.hid hn
  have hpt : ((p : Int) == -1) = false := by simp
  clear ho hx hat hbefore hstart hn
  have eg : ∀ args w, (callFunc 41 args).run Tryd.prog w = .ok (.enter 41 args) w := enters_of Tryd.func41 (by kernel_rfl) rfl
  go_enter Tryd.func40, Tryd.ntmps40
  go_wp2_with fail
  refine k.mono ?_
  rintro e w2 ⟨rfl, f2⟩
  have HF := Lib.hid (show Fr (fun i => i = g) w w2 from f2.mono fun _ _ h => h.elim)
  have HO2 := Lib.hid (HO.out.fr f2 fun _ _ => id)
  clear f2 k
  go_wp2_with fail
  go_loopw [5, 6] (fun vi vj wr => ∃ (i j : Nat) (F : List Pa), F = noQ q (l.take j) ∧ F.length = i ∧ i < j ∧ j ≤ n ∧ vi = .int .i64 (i : Int) ∧ vj = .int .i64 (j : Int) ∧ Own wr 26 7 (some ⟨g, 0, none⟩) n c (flat (F ++ l.drop i)) ∧ Fr (fun i => i = g) w wr) (fun _ vj _ => n - (intOf vj).toNat)
  case atStart =>
    have hlen : (l.take p).length = p := by rw [List.length_take]; have := HN.out; omega
    exact ⟨p, p + 1, l.take p, HS.out.symm, hlen, by omega, by omega, rfl, by go_num, by rw [List.take_append_drop]; exact HO2.out, HF.out⟩
  case round =>
    obtain ⟨i, j, F, hFd, hFl, hij, hj, rfl, rfl, ho, hf⟩ := hrel
    have hFn : (F ++ l.drop i).length = n := by rw [List.length_append, List.length_drop, hFl]; have := HN.out; omega
    by_cases hjn : j < n
    · obtain ⟨u, hu⟩ : ∃ u, l[j]? = some u := ⟨_, List.getElem?_eq_getElem (by have := HN.out; omega)⟩
      have hu2 : (F ++ l.drop i)[j]? = some u := by
        rw [List.getElem?_append_right (by omega), List.getElem?_drop, hFl, show i + (j - i) = j by omega]; exact hu
      obtain ⟨x, r, hx⟩ : ∃ x r, l.drop i = x :: r := ⟨_, _, List.drop_eq_getElem_cons (by have := HN.out; omega)⟩
      have hx2 : (F ++ l.drop i)[i]? = some x := by rw [hx, List.getElem?_append_right (by omega), hFl, Nat.sub_self]; rfl
      obtain ⟨g0, g1, g2, g3, g4, g5, g6⟩ := ho.e7 hFn hu2
      have hgl := ho.lt rfl
      obtain ⟨⟨p', m', ⟨s', h', l'⟩, o', a'⟩, hue⟩ : ∃ y : Pa, u = y := ⟨_, rfl⟩
      subst hue
      simp only at g0 g1 g2 g3 g4 g5 g6
      have HNW := Lib.hid (Blk.new wr 26 #[.int .i64 p', .int .i64 m', .bool s', .int .u64 (h' : Int), .int .u64 (l' : Int), .int .i64 o', .bool a'])
      have f0 := (Fr.refl N0 wr).alloc (.cells #[.int .i64 p', .int .i64 m', .bool s', .int .u64 (h' : Int), .int .u64 (l' : Int), .int .i64 o', .bool a'] 26)
      have k1 := fl1_ (w := wr.alloc (.cells #[.int .i64 p', .int .i64 m', .bool s', .int .u64 (h' : Int), .int .u64 (l' : Int), .int .i64 o', .bool a'] 26)) gx q ⟨p', m', ⟨s', h', l'⟩, o', a'⟩ ((HX.out.fr hf hgx).fr f0 id)
      have HF0 := Lib.hid f0
      have HOW := Lib.hid ho
      have HF3 := Lib.hid hf
      have HU := Lib.hid hu
      have HFD := Lib.hid hFd
      have HFL := Lib.hid hFl
      have HFN := Lib.hid hFn
      have HXR := Lib.hid hx
      have HX2 := Lib.hid hx2
      have hne : wr.heap.size ≠ g := by omega
      have hjI : (j : Int) < (n : Int) := by omega
      unfold paV at k1
      simp only at k1
      clear ho hf hu hFd hFl hx hx2 hu2 f0 hFn
      by_cases hD : p' = q
      · have HFD2 := Lib.hid (show F = noQ q (l.take (j + 1)) by rw [take_snoc7 HU.out, noQ_snoc, if_pos hD]; exact HFD.out)
        rw [decide_eq_true hD] at k1
        clear hD
        go_wp2_with fail
        refine k1.mono ?_
        rintro e w5 ⟨rfl, f5⟩
        have HO6 := Lib.hid (HOW.out.fr (HF0.out.trans f5) fun _ _ => id)
        have HF6 := Lib.hid (HF3.out.trans ((HF0.out.trans f5).mono fun _ _ h => h.elim))
        clear f5 g0 g1 g2 g3 g4 g5 g6
        go_wp2_with fail
        go_roundw
        case rel => exact ⟨i, j + 1, F, HFD2.out, HFL.out, by omega, by omega, rfl, by go_num, HO6.out, HF6.out⟩
        case measure => simp [intOf]; omega
      · have HFD2 := Lib.hid (show F ++ [⟨p', m', ⟨s', h', l'⟩, o', a'⟩] = noQ q (l.take (j + 1)) by rw [take_snoc7 HU.out, noQ_snoc, if_neg hD, HFD.out])
        rw [decide_eq_false hD] at k1
        clear hD
        go_wp2_with fail
        refine k1.mono ?_
        rintro e w5 ⟨rfl, f5⟩
        clear g0 g1 g2 g3 g4 g5 g6
        have ho5 := HOW.out.fr (HF0.out.trans f5) fun _ _ => id
        obtain ⟨y0, y1, y2, y3, y4, y5, y6⟩ := (HNW.out.fr f5 id).c7
        obtain ⟨x0, x1, x2, x3, x4, x5, x6⟩ := ho5.e7 HFN.out HX2.out
        have z0 := ho5.cell_none (i * 7)
        have z1 := ho5.cell_none (i * 7 + 1)
        have z2 := ho5.cell_none (i * 7 + 2)
        have z3 := ho5.cell_none (i * 7 + 3)
        have z4 := ho5.cell_none (i * 7 + 4)
        have z5 := ho5.cell_none (i * 7 + 5)
        have z6 := ho5.cell_none (i * 7 + 6)
        have hin : (F ++ l.drop i).length = n := HFN.out
        have hnew : ((F ++ l.drop i).set i ⟨p', m', ⟨s', h', l'⟩, o', a'⟩) = (F ++ [⟨p', m', ⟨s', h', l'⟩, o', a'⟩]) ++ l.drop (i + 1) := by
          have h2 : l.drop (i + 1) = r := by
            have h3 := congrArg List.tail HXR.out
            rw [List.tail_drop] at h3
            exact h3
          rw [h2, HXR.out, List.set_append_right _ _ (by have := HFL.out; omega), HFL.out, Nat.sub_self]
          simp
        have ho6 := ho5.put (i := i) (by rw [hin]; omega) ⟨p', m', ⟨s', h', l'⟩, o', a'⟩
        rw [hnew] at ho6
        have hf6 : Fr (fun k => k = g) w (w5.setCells g (i * 7) (Pa.cs ⟨p', m', ⟨s', h', l'⟩, o', a'⟩)) := Fr.setsC _ _ (HF3.out.trans ((HF0.out.trans f5).mono fun _ _ h => h.elim)) (.inl rfl)
        have ho6' : Own (w5.setCells g (i * 7) (Pa.cs ⟨p', m', ⟨s', h', l'⟩, o', a'⟩)) 26 7 (some ⟨g, 0, none⟩) n c (flat ((F ++ [⟨p', m', ⟨s', h', l'⟩, o', a'⟩]) ++ l.drop (i + 1))) := ho6
        rw [sets7] at ho6' hf6
        have HO6 := Lib.hid ho6'
        have HF6 := Lib.hid hf6
        have HFL2 := Lib.hid (show (F ++ [(⟨p', m', ⟨s', h', l'⟩, o', a'⟩ : Pa)]).length = i + 1 by rw [List.length_append, HFL.out]; rfl)
        clear ho6 ho6' hf6 hnew ho5 hin f5
        go_wp2_with fail
        go_roundw
        case rel => exact ⟨i + 1, j + 1, F ++ [⟨p', m', ⟨s', h', l'⟩, o', a'⟩], HFD2.out, HFL2.out, by omega, by omega, by go_num, by go_num, HO6.out, HF6.out⟩
        case measure => simp [intOf]; omega
    · obtain rfl : j = n := by omega
      have hFn2 : F = noQ q l := by rw [hFd, List.take_of_length_le (by have := HN.out; omega)]
      obtain ⟨w6, hrun, ho6, hf6⟩ := clear_from ho (i := i) (by omega) 0
      rw [flat_take, List.take_append_of_le_length (by omega), List.take_of_length_le (by omega), hFn2] at ho6
      have HG := Lib.hid ho6
      have HF6 := Lib.hid (hf.trans hf6)
      have HI6 := Lib.hid (show i = (noQ q l).length by rw [← hFn2, hFl])
      have hc := ho.len_le
      have hic : i ≤ c := by omega
      have hnec : ¬ c = i := by omega
      have hjI : ¬ ((j : Int) < (j : Int)) := by omega
      clear ho6 hf6 ho hf hFn2 hFd hFl hFn
      go_wp2_with fail
      go_ret
      rw [← HI6.out]
      exact ⟨rfl, HG.out, HF6.out⟩
/-- Whatever stands there. -/
theorem dlf_ (gx : Nat) (q : Int) (g n c : Nat) (l : List Pa) (ho : Own w 26 7 (some ⟨g, 0, none⟩) n c (flat l)) (hn : l.length = n) (hl : n < 1000000) (hx : Blk w gx 3 #[.int .i64 q]) (hgx : gx ≠ g) :
    Calls Tryd.prog 40 #[.slice (some ⟨g, 0, none⟩) n c, .func (.func 41) #[] #[.pointer (some ⟨gx, 0, none⟩)]] w fun e w' =>
      e = .returned (.slice (some ⟨g, 0, none⟩) (noQ q l).length c) ∧ Own w' 26 7 (some ⟨g, 0, none⟩) (noQ q l).length c (flat (noQ q l)) ∧ Fr (fun i => i = g) w w' := by
  obtain ⟨p, hp, h1, h2⟩ := noQ_find q l
  rcases Nat.lt_or_ge p n with k | k
  · exact dlf_in gx q g n c l ho hn hl hx hgx p k h1 h2
  · have hq : ∀ x ∈ l, x.proto ≠ q := fun x hx => by
      obtain ⟨j, hj⟩ := List.getElem?_of_mem hx
      exact h1 j x (by have := (List.getElem?_eq_some_iff.1 hj).1; omega) hj
    refine (dlf_no gx q _ n c l ho hn hl hx hq).mono fun e w' ⟨he, hf⟩ => ?_
    rw [noQ_all hq, hn]
    exact ⟨he, ho.fr hf fun _ _ => id, hf.mono fun _ _ h => h.elim⟩
end
end Go.Proofs.YtnklbeigikcfkaaDoor
