/- The document's own wheel: Left, Next, Tick. -/
import Derived.Test.YtgmeebpgncenmaaRf
namespace Go.Proofs.Ytgmeebpgncenmaa
open Go.RowKit
section
variable {w : World} {q now : Nat} {F : Nat → Prop} {L : List Tm}
set_option maxHeartbeats 1600000 in
theorem rleft_no (h : RWh w q F now L) (hl : L.length ≤ 1000) (id : Int) (hno : ∀ t, t ∈ L → t.id ≠ id) :
    Calls Try.prog 21 #[.pointer (some ⟨q, 0, none⟩), .int .i64 id] w fun e w' => e = .returned (.tuple #[.int .i64 0, .bool false]) ∧ Fr (fun _ => False) w w' := by
  have HC := Lib.hid (rat_none h hl id hno)
  clear hno
  go_enter Try.func21, Try.ntmps21
  go_wp2_with fail
  refine HC.out.mono ?_
  rintro e w2 ⟨rfl, rfl⟩
  go_wp2_with fail
  go_ret2
  exact ⟨rfl, Fr.refl _ _⟩
set_option maxHeartbeats 1600000 in
theorem rleft_yes (h : RWh w q F now L) (hl : L.length ≤ 1000) (hid : L.Pairwise fun x y => x.id ≠ y.id) (t : Tm) (ht : t ∈ L) (hd : t.due < 4611686018427387904) (hnow : now < 4611686018427387904) :
    Calls Try.prog 21 #[.pointer (some ⟨q, 0, none⟩), .int .i64 t.id] w fun e w' => e = .returned (.tuple #[.int .i64 ((t.due : Int) - (now : Int)), .bool true]) ∧ Fr (fun _ => False) w w' := by
  obtain ⟨p, u, hp, hu, hb⟩ := first_id ⟨t, ht, rfl⟩
  have hut : u = t := by
    obtain ⟨j, hj⟩ := List.getElem?_of_mem ht
    have hm : p = j := by
      obtain ⟨h1, e1⟩ := List.getElem?_eq_some_iff.1 hp
      obtain ⟨h2, e2⟩ := List.getElem?_eq_some_iff.1 hj
      rw [List.pairwise_iff_getElem] at hid
      rcases Nat.lt_trichotomy p j with h3 | h3 | h3
      · exact absurd (by rw [e1, e2, hu]) (hid p j h1 h2 h3)
      · exact h3
      · exact absurd (by rw [e1, e2, hu]) (hid j p h2 h1 h3)
    subst hm
    rw [hp] at hj
    exact Option.some.inj hj
  subst hut
  have HC := Lib.hid (rat_some h hl p u hp (fun j v hj hv => hb j v hj hv))
  have hpl : p < L.length := (List.getElem?_eq_some_iff.1 hp).1
  obtain ⟨A, c, hB, hO, _⟩ := h
  have b0 := hB.cell 0
  have b1 := hB.cell 1
  simp only [List.getElem?_toArray, List.getElem?_cons_zero, List.getElem?_cons_succ] at b0 b1
  obtain ⟨g, rfl⟩ := hO.some_ (by omega)
  have g1 := hO.cell (p * 2 + 1) (by omega)
  rw [(rcs_cell L p u hp).2] at g1
  have hli : (p : Int) < (L.length : Int) := by omega
  have hp0 : (0 : Int) ≤ (p : Int) := by omega
  generalize L.length = n at *
  clear hB hO hp hb hid ht
  go_enter Try.func21, Try.ntmps21
  go_wp2_with fail
  refine HC.out.mono ?_
  rintro e w2 ⟨rfl, rfl⟩
  go_wp2_with fail
  go_quiet (fail)
  go_wp2_with fail
  go_ret2
  exact ⟨rfl, (Fr.refl _ _).drewN _⟩
set_option maxHeartbeats 1600000 in
theorem rnext_any (h : RWh w q F now L) (hl : L.length ≤ 1000) (hnow : now < 1152921504606846976) (hdu : ∀ t, t ∈ L → now < t.due ∧ t.due < 4611686018427387904) : Calls Try.prog 24 #[.pointer (some ⟨q, 0, none⟩)] w (Nexts w L now) := by
  obtain ⟨A, c, hB, hO, _⟩ := h
  have b0 := hB.cell 0
  have b1 := hB.cell 1
  simp only [List.getElem?_toArray, List.getElem?_cons_zero, List.getElem?_cons_succ] at b0 b1
  have HO := Lib.hid hO
  have HDU := Lib.hid hdu
  obtain ⟨n, hn⟩ : ∃ n, n = L.length := ⟨_, rfl⟩
  have HN := Lib.hid hn
  rw [← hn] at hl b1 HO
  clear hB hO hdu hn
  go_enter Try.func24, Try.ntmps24
  go_wp2_with fail
  go_loopw [3, 4] (fun v3 v4 wr => ∃ j v k : Nat, j ≤ n ∧ v4 = .int .i64 (j : Int) ∧ v3 = .int .i64 (v : Int) ∧ NextInv L ((L.drop j).map fun t => (t.id, t)) now v ∧ wr = w.drewN k) (fun _ i _ => 2000 - (intOf i).toNat)
  case atStart => exact ⟨0, 0, 0, Nat.zero_le _, rfl, rfl, NextInv.start _ _, rfl⟩
  case round =>
    obtain ⟨j, v, k, hj, rfl, rfl, hN, rfl⟩ := hrel
    have HNI := Lib.hid hN
    clear hN
    by_cases hjn : j < n
    · obtain ⟨t, ht⟩ : ∃ t, L[j]? = some t := ⟨_, List.getElem?_eq_getElem (by have := HN.out; omega)⟩
      obtain ⟨hd1, hd2⟩ := HDU.out t (List.mem_of_getElem? ht)
      have hdr : L.drop j = t :: L.drop (j + 1) := by
        obtain ⟨h1, e1⟩ := List.getElem?_eq_some_iff.1 ht
        rw [List.drop_eq_getElem_cons h1, e1]
      obtain ⟨g, rfl⟩ := HO.out.some_ (by omega)
      have g1 := HO.out.cell (j * 2 + 1) (by omega)
      rw [(rcs_cell L j t ht).2] at g1
      have hi0 : ((L.drop j).map fun t => (t.id, t))[0]? = some (t.id, t) := by rw [hdr]; rfl
      have he0 : ((L.drop j).map fun t => (t.id, t)).eraseIdx 0 = (L.drop (j + 1)).map fun t => (t.id, t) := by rw [hdr]; rfl
      have HI0 := Lib.hid hi0
      have HE0 := Lib.hid he0
      have hji : (j : Int) < (n : Int) := by omega
      clear hi0 he0 hdr ht
      by_cases hv0 : v = 0
      · subst hv0
        have HNX := Lib.hid (HNI.out.less HI0.out hd1 (.inl rfl))
        rw [HE0.out] at HNX
        go_wp2_with fail
        go_quiet (fail)
        go_wp2_with fail
        go_quiet (fail)
        go_wp2_with fail
        go_roundw
        case rel => first
          | exact ⟨j + 1, t.due - now, _, by omega, by go_num, by rw [show ((t.due - now : Nat) : Int) = (t.due : Int) - (now : Int) by omega], HNX.out, rfl⟩
          | ((repeat apply Exists.intro); exact ⟨⟨j + 1, t.due - now, _, by omega, by go_num, by rw [show ((t.due - now : Nat) : Int) = (t.due : Int) - (now : Int) by omega], HNX.out, rfl⟩, rfl⟩)
        case measure => simp [intOf]; omega
      · have hb : ((v : Int) == 0) = false := by simp; omega
        have hvp : 0 < v := by omega
        clear hv0
        by_cases hlt : t.due - now < v
        · have hl3 : (t.due : Int) - (now : Int) < (v : Int) := by omega
          have HNX := Lib.hid (HNI.out.less HI0.out hd1 (.inr hlt))
          rw [HE0.out] at HNX
          go_wp2_with fail
          go_quiet (fail)
          go_wp2_with fail
          go_quiet (fail)
          go_wp2_with fail
          go_roundw
          case rel => first
            | exact ⟨j + 1, t.due - now, _, by omega, by go_num, by rw [show ((t.due - now : Nat) : Int) = (t.due : Int) - (now : Int) by omega], HNX.out, rfl⟩
            | ((repeat apply Exists.intro); exact ⟨⟨j + 1, t.due - now, _, by omega, by go_num, by rw [show ((t.due - now : Nat) : Int) = (t.due : Int) - (now : Int) by omega], HNX.out, rfl⟩, rfl⟩)
          case measure => simp [intOf]; omega
        · have hl3 : decide ((t.due : Int) - (now : Int) < (v : Int)) = false := by rw [decide_eq_false_iff_not]; omega
          have hl4 : (v : Int) ≤ (t.due : Int) - (now : Int) := by omega
          have HNX := Lib.hid (HNI.out.more HI0.out hvp (by omega))
          rw [HE0.out] at HNX
          go_wp2_with fail
          go_quiet (fail)
          go_wp2_with fail
          go_roundw
          case rel => first
            | exact ⟨j + 1, v, _, by omega, by go_num, rfl, HNX.out, rfl⟩
            | ((repeat apply Exists.intro); exact ⟨⟨j + 1, v, _, by omega, by go_num, rfl, HNX.out, rfl⟩, rfl⟩)
          case measure => simp [intOf]; omega
    · have HNX := Lib.hid (show IsNext L now v by
        have h1 := HNI.out
        rw [List.drop_eq_nil_of_le (by have := HN.out; omega)] at h1
        exact h1.stop)
      go_wp2_with fail
      go_ret
      exact ⟨v, rfl, HNX.out, (Fr.refl _ _).drewN _⟩

/-- What a tick of it leaves. -/
def RTick (w : World) (q now : Nat) (F : Nat → Prop) (L : List Tm) (e : Ending) (w' : World) : Prop :=
  ∃ (R : Option Addr) (rc : Nat), e = .returned (.slice R (dueL L (now + 1)).length rc) ∧ Own w' 3 1 R (dueL L (now + 1)).length rc ((dueL L (now + 1)).map idV) ∧ RWh w' q (Fn F w) (now + 1) (leftL L (now + 1)) ∧ Fr F w w' ∧ ∀ g, R = some ⟨g, 0, none⟩ → w.heap.size ≤ g
/-- While it is under way: j of them have been looked at. -/
def RMid (w : World) (q nw : Nat) (F : Nat → Prop) (L : List Tm) (A : Option Addr) (c j : Nat) (R : Option Addr) (rn rc : Nat) (B : Option Addr) (bn bc : Nat) (wr : World) : Prop :=
  Blk wr q 43 #[.int .i64 (nw : Int), .slice A L.length c] ∧ Own wr 62 2 A L.length c (rcs L) ∧ rn = (dueL (L.take j) nw).length ∧ bn = (leftL (L.take j) nw).length ∧
  Own wr 3 1 R rn rc ((dueL (L.take j) nw).map idV) ∧ Own wr 62 2 B bn bc (rcs (leftL (L.take j) nw)) ∧ (∀ g, R = some ⟨g, 0, none⟩ → w.heap.size ≤ g) ∧ (∀ g, B = some ⟨g, 0, none⟩ → w.heap.size ≤ g) ∧ Fr F w wr
section
variable {W W5 : World} {nw c j rn rc bn bc : Nat} {A R B : Option Addr}
theorem RMid.due (h : RMid w q nw F L A c j R rn rc B bn bc W) (hA : ∀ g, A = some ⟨g, 0, none⟩ → g < w.heap.size) (hq : q < w.heap.size) {t : Tm} (ht : L[j]? = some t) (hd : t.due = nw) {g' c' : Nat}
    (ho : Own W5 3 1 (some ⟨g', 0, none⟩) (rn + 1) c' ((dueL (L.take j) nw).map idV ++ [.int .i64 t.id])) (f : Fr (fun i => R = some ⟨i, 0, none⟩) W W5) (hg : R = some ⟨g', 0, none⟩ ∨ W.heap.size ≤ g') :
    RMid w q nw F L A c (j + 1) (some ⟨g', 0, none⟩) (rn + 1) c' B bn bc W5 := by
  obtain ⟨h1, h2, h3, h4, h5, h6, h7, h8, h9⟩ := h
  have e1 : dueL (L.take (j + 1)) nw = dueL (L.take j) nw ++ [t] := by rw [take_snoc_ ht]; simp [dueL, hd]
  have e2 : leftL (L.take (j + 1)) nw = leftL (L.take j) nw := by rw [take_snoc_ ht]; simp [leftL, hd]
  refine ⟨h1.fr f fun e => by have := h7 _ e; omega, h2.fr f fun g e e' => by have := hA g e; have := h7 _ e'; omega, by rw [e1, h3]; simp, by rw [e2, h4], ?_, ?_, fun g e => ?_, h8, h9.step f fun i hi => .inr (h7 i hi)⟩
  · rw [e1]; simpa [idV] using ho
  · rw [e2]; exact h6.fr f fun g e e' => h5.ne_own h6 (by decide) e' e
  · rw [Option.some.injEq, Addr.mk.injEq] at e
    rw [← e.1]
    rcases hg with h10 | h10
    · exact h7 _ h10
    · exact Nat.le_trans h9.size h10
theorem RMid.left (h : RMid w q nw F L A c j R rn rc B bn bc W) (hA : ∀ g, A = some ⟨g, 0, none⟩ → g < w.heap.size) (hq : q < w.heap.size) {t : Tm} (ht : L[j]? = some t) (hd : t.due ≠ nw) {g' c' : Nat}
    (ho : Own W5 62 2 (some ⟨g', 0, none⟩) (bn + 1) c' (rcs (leftL (L.take j) nw) ++ t.rc)) (f : Fr (fun i => B = some ⟨i, 0, none⟩) W W5) (hg : B = some ⟨g', 0, none⟩ ∨ W.heap.size ≤ g') :
    RMid w q nw F L A c (j + 1) R rn rc (some ⟨g', 0, none⟩) (bn + 1) c' W5 := by
  obtain ⟨h1, h2, h3, h4, h5, h6, h7, h8, h9⟩ := h
  have e1 : dueL (L.take (j + 1)) nw = dueL (L.take j) nw := by rw [take_snoc_ ht]; simp [dueL, hd]
  have e2 : leftL (L.take (j + 1)) nw = leftL (L.take j) nw ++ [t] := by rw [take_snoc_ ht]; simp [leftL, hd]
  refine ⟨h1.fr f fun e => by have := h8 _ e; omega, h2.fr f fun g e e' => by have := hA g e; have := h8 _ e'; omega, by rw [e1, h3], by rw [e2, h4]; simp, ?_, ?_, h7, fun g e => ?_, h9.step f fun i hi => .inr (h8 i hi)⟩
  · rw [e1]; exact h5.fr f fun g e e' => h6.ne_own h5 (by decide) e' e
  · rw [e2, rcs_append, rcs_one]; exact ho
  · rw [Option.some.injEq, Addr.mk.injEq] at e
    rw [← e.1]
    rcases hg with h10 | h10
    · exact h8 _ h10
    · exact Nat.le_trans h9.size h10
theorem RMid.fr0 (h : RMid w q nw F L A c j R rn rc B bn bc W) (f : Fr (fun _ => False) W W5) : RMid w q nw F L A c j R rn rc B bn bc W5 := by
  obtain ⟨h1, h2, h3, h4, h5, h6, h7, h8, h9⟩ := h
  exact ⟨h1.fr f id, h2.fr f fun _ _ => id, h3, h4, h5.fr f fun _ _ => id, h6.fr f fun _ _ => id, h7, h8, h9.step f fun _ h => h.elim⟩
end
set_option maxRecDepth 100000 in
set_option maxHeartbeats 1600000 in
theorem rtick_any (h : RWh w q F now L) (hl : L.length ≤ 1000) (hnow : now < 1152921504606846976) : Calls Try.prog 19 #[.pointer (some ⟨q, 0, none⟩)] w (RTick w q now F L) := by
  obtain ⟨A, c, hB, hO, hFq, hFA⟩ := h
  have b0 := hB.cell 0
  have z0 := hB.frozen 0
  simp only [List.getElem?_toArray, List.getElem?_cons_zero] at b0
  have hq := hB.lt
  obtain ⟨nw, hnw⟩ : ∃ nw, nw = now + 1 := ⟨_, rfl⟩
  have hM : RMid w q nw F L A c 0 none 0 0 none 0 0 (w.setCell ⟨q, 0, none⟩ (.int .i64 ((now : Int) + 1))) := by
    have f : Fr (fun i => i = q) w (w.setCell ⟨q, 0, none⟩ (.int .i64 ((now : Int) + 1))) := (Fr.refl (fun i => i = q) _).setCell (.inl rfl) _
    refine ⟨?_, hO.fr f fun g hg e => ?_, rfl, rfl, Own.nil_ _ _ _, Own.nil_ _ _ _, nofun, nofun, f.mono fun i _ hi => by rw [hi]; exact hFq⟩
    · have := hB.set_ 0 (.int .i64 ((now : Int) + 1))
      rw [hnw]
      exact this
    · subst hg
      exact hO.block_ne hB (by decide) e
  have HM := Lib.hid hM
  have HA := Lib.hid (show ∀ g, A = some ⟨g, 0, none⟩ → g < w.heap.size from fun g hg => hO.lt hg)
  have HFQ := Lib.hid hFq
  have HFA := Lib.hid hFA
  have hnwi : (now : Int) + 1 = (nw : Int) := by omega
  have HNW := Lib.hid hnwi
  have HNW2 := Lib.hid hnw
  clear hM hB hO hFq hFA hnwi hnw
  go_enter Try.func19, Try.ntmps19
  go_wp2_with fail
  clear b0 z0
  obtain ⟨n, hn⟩ : ∃ n, n = L.length := ⟨_, rfl⟩
  have HN := Lib.hid hn
  rw [← hn] at hl
  clear hn
  go_loopw [3, 4, 5] (fun v3 v4 v5 wr => ∃ (j rn rc bn bc : Nat) (R B : Option Addr), j ≤ n ∧ v5 = .int .i64 (j : Int) ∧ v3 = .slice R rn rc ∧ v4 = .slice B bn bc ∧ rn ≤ j ∧ bn ≤ j ∧ RMid w q nw F L A c j R rn rc B bn bc wr) (fun _ _ i _ => 2000 - (intOf i).toNat)
  case atStart => exact ⟨0, 0, 0, 0, 0, none, none, Nat.zero_le _, rfl, rfl, rfl, Nat.le_refl _, Nat.le_refl _, HM.out⟩
  case round =>
    obtain ⟨j, rn, rc, bn, bc, R, B, hj, rfl, rfl, rfl, hrn, hbn, hM⟩ := hrel
    have b0 := hM.1.cell 0
    have b1 := hM.1.cell 1
    have zf := hM.1.frozen 1
    simp only [List.getElem?_toArray, List.getElem?_cons_zero, List.getElem?_cons_succ] at b0 b1
    rw [← HN.out] at b1
    have HM2 := Lib.hid hM
    clear HM
    by_cases hjn : j < n
    · obtain ⟨t, ht⟩ : ∃ t, L[j]? = some t := ⟨_, List.getElem?_eq_getElem (by have := HN.out; omega)⟩
      have hO2 := hM.2.1
      obtain ⟨g, hg⟩ := hO2.some_ (by have := HN.out; omega)
      subst hg
      have g0 := hO2.cell (j * 2) (by have := HN.out; omega)
      have g1 := hO2.cell (j * 2 + 1) (by have := HN.out; omega)
      rw [(rcs_cell L j t ht).1] at g0
      rw [(rcs_cell L j t ht).2] at g1
      have HT := Lib.hid ht
      have hji : (j : Int) < (n : Int) := by omega
      clear hM hO2 ht
      by_cases hd : t.due = nw
      · have hdb : ((t.due : Int) == (nw : Int)) = true := by simp [hd]
        have HD := Lib.hid hd
        clear hd
        go_wp2_with fail
        go_quiet (fail)
        have HMQ := Lib.hid (HM2.out.fr0 ((Fr.refl _ wr).drewN nq))
        obtain ⟨i0, hi, hz0, hz1, hz2⟩ := info_parts info_i64
        go_wp2_with (at_builtin; refine wpList_append1 (wr.drewN nq) rfl (.tmp 35) (.tmp 44) 25 rfl 3 i0 _ 1 8 Try.underlying25 hi hz0 hz1 hz2 rfl (by omega) R rn rc _ rfl HMQ.out.2.2.2.2.1 [.int .i64 t.id] rfl rfl ?_ ?_ ?_ ?_)
        · intro u hu; simp at hu; subst hu; rfl
        · omega
        · omega
        · intro g' c' w5 ho f7 hg'
          have HM5 := Lib.hid (HMQ.out.due HA.out hq HT.out HD.out ho f7 hg')
          clear ho f7 hg' b0 b1 g0 g1 zf
          go_wp2_with fail
          go_roundw
          case rel => first
            | exact ⟨j + 1, rn + 1, c', bn, bc, some ⟨g', 0, none⟩, B, by omega, by go_num, rfl, rfl, by omega, by omega, HM5.out⟩
            | ((repeat apply Exists.intro); exact ⟨⟨j + 1, rn + 1, c', bn, bc, some ⟨g', 0, none⟩, B, by omega, by go_num, rfl, rfl, by omega, by omega, HM5.out⟩, rfl⟩)
          case measure => simp [intOf]; omega
      · have hdb : ((t.due : Int) == (nw : Int)) = false := by simp; omega
        have HD := Lib.hid hd
        clear hd
        go_wp2_with fail
        go_quiet (fail)
        have HMQ := Lib.hid (HM2.out.fr0 ((Fr.refl _ wr).drewN nq))
        obtain ⟨i0, hi, hz0, hz1, hz2⟩ := info_parts info62
        go_wp2_with (at_builtin; refine wpList_append1 (wr.drewN nq) rfl (.tmp 46) (.tmp 54) 41 rfl 62 i0 _ 2 16 Try.underlying41 hi hz0 hz1 hz2 rfl (by omega) B bn bc _ rfl HMQ.out.2.2.2.2.2.1 [.int .i64 t.id, .int .i64 (t.due : Int)] rfl rfl ?_ ?_ ?_ ?_)
        · intro u hu; simp at hu; rcases hu with rfl | rfl <;> rfl
        · omega
        · omega
        · intro g' c' w5 ho f7 hg'
          have HM5 := Lib.hid (HMQ.out.left HA.out hq HT.out HD.out ho f7 hg')
          clear ho f7 hg' b0 b1 g0 g1 zf
          go_wp2_with fail
          go_roundw
          case rel => first
            | exact ⟨j + 1, rn, rc, bn + 1, c', R, some ⟨g', 0, none⟩, by omega, by go_num, rfl, rfl, by omega, by omega, HM5.out⟩
            | ((repeat apply Exists.intro); exact ⟨⟨j + 1, rn, rc, bn + 1, c', R, some ⟨g', 0, none⟩, by omega, by go_num, rfl, rfl, by omega, by omega, HM5.out⟩, rfl⟩)
          case measure => simp [intOf]; omega
    · have hfin : RTick w q now F L (.returned (.slice R rn rc)) (wr.setCell ⟨q, 1, none⟩ (.slice B bn bc)) := by
        obtain ⟨h1, h2, h3, h4, h5, h6, h7, h8, h9⟩ := HM2.out
        rw [List.take_of_length_le (by have := HN.out; omega)] at h3 h4 h5 h6
        have e := HNW2.out
        subst e
        have f : Fr (fun i => i = q) wr (wr.setCell ⟨q, 1, none⟩ (.slice B bn bc)) := (Fr.refl (fun i => i = q) _).setCell (.inl rfl) _
        refine ⟨R, rc, by rw [h3], ?_, ⟨B, bc, ?_, ?_, .inl HFQ.out, fun g hg => .inr (h8 g hg)⟩, h9.step f fun i hi => .inl (by rw [hi]; exact HFQ.out), h7⟩
        · rw [← h3]; exact h5.fr f fun g hg e => by have := h7 g hg; omega
        · rw [← h4]; exact h1.set_ 1 _
        · rw [← h4]; exact h6.fr f fun g hg e => by have := h8 g hg; omega
      have HFI := Lib.hid hfin
      clear hfin hM
      go_wp2_with fail
      go_ret
      exact HFI.out
end
end Go.Proofs.Ytgmeebpgncenmaa
