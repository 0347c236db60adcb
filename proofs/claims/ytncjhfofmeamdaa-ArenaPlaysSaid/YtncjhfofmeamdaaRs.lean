/- The document's own arena: its blocks, size, within, cover. -/
import Derived.Test.YtncjhfofmeamdaaTwo
import Derived.Test.YtncjhfofmeamdaaApartWalk
namespace Go.Proofs.Ytncjhfofmeamdaa
open Go.RowKit

def bl (p : Nat × Nat) : List Value := [.int .i64 (p.1 : Int), .int .i64 (p.2 : Int)]
def bls (l : Tk) : List Value := l.flatMap bl
theorem bls_length (l : Tk) : (bls l).length = l.length * 2 := by
  induction l with
  | nil => rfl
  | cons x r ih => simp [bls, bl] at ih ⊢; omega
theorem bls_append (l r : Tk) : bls (l ++ r) = bls l ++ bls r := by simp [bls]
theorem bls_one (t : Nat × Nat) : bls [t] = bl t := by simp [bls]
theorem bls_cell : ∀ (l : Tk) (i : Nat) (t : Nat × Nat), l[i]? = some t → (bls l)[i * 2]? = some (.int .i64 (t.1 : Int)) ∧ (bls l)[i * 2 + 1]? = some (.int .i64 (t.2 : Int))
  | [], i, t, h => by simp at h
  | x :: r, 0, t, h => by
    simp at h
    subst h
    simp [bls, bl]
  | x :: r, i + 1, t, h => by
    simp only [List.getElem?_cons_succ] at h
    have ih := bls_cell r i t h
    have e : bls (x :: r) = bl x ++ bls r := rfl
    have hl : (bl x).length = 2 := rfl
    have e0 : (i + 1) * 2 - 2 = i * 2 := by omega
    have e1 : (i + 1) * 2 + 1 - 2 = i * 2 + 1 := by omega
    refine ⟨?_, ?_⟩
    · rw [e, List.getElem?_append_right (by omega), hl, e0]; exact ih.1
    · rw [e, List.getElem?_append_right (by omega), hl, e1]; exact ih.2
theorem bls_one_cell (l : Tk) : ∀ u ∈ bls l, u.oneCell' = true := by
  intro u hu
  obtain ⟨t, _, ht⟩ := List.mem_flatMap.1 hu
  simp [bl] at ht
  rcases ht with rfl | rfl <;> rfl
theorem bls_take (l : Tk) (p : Nat) : (bls l).take (p * 2) = bls (l.take p) := by
  induction l generalizing p with
  | nil => simp [bls]
  | cons x r ih =>
    cases p with
    | zero => rfl
    | succ p =>
      have e : bls (x :: r) = .int .i64 (x.1 : Int) :: .int .i64 (x.2 : Int) :: bls r := rfl
      rw [e, show (p + 1) * 2 = p * 2 + 1 + 1 by omega, List.take_succ_cons, List.take_succ_cons, ih]
      rfl
theorem bls_drop (l : Tk) (p : Nat) : (bls l).drop (p * 2) = bls (l.drop p) := by
  induction l generalizing p with
  | nil => simp [bls]
  | cons x r ih =>
    cases p with
    | zero => rfl
    | succ p =>
      have e : bls (x :: r) = .int .i64 (x.1 : Int) :: .int .i64 (x.2 : Int) :: bls r := rfl
      rw [e, show (p + 1) * 2 = p * 2 + 1 + 1 by omega, List.drop_succ_cons, List.drop_succ_cons, ih]
      rfl

/-- Block b is the document's arena; L is taken. -/
def RAr (w : World) (F : Nat → Prop) (b n : Nat) (L : Tk) : Prop :=
  ∃ (A : Option Addr) (c : Nat), Blk w b 54 #[.int .i64 (n : Int), .slice A L.length c] ∧ Own w 56 2 A L.length c (bls L) ∧ F b ∧ ∀ g, A = some ⟨g, 0, none⟩ → F g
section
variable {w w' : World} {b n : Nat} {F G S : Nat → Prop} {L : Tk}
theorem RAr.mono (h : RAr w F b n L) (hFG : ∀ i, i < w.heap.size → F i → G i) : RAr w G b n L := by
  obtain ⟨A, c, h1, h2, h3, h4⟩ := h
  exact ⟨A, c, h1, h2, hFG b h1.lt h3, fun g hg => hFG g (h2.lt hg) (h4 g hg)⟩
theorem RAr.fr (h : RAr w F b n L) (f : Fr S w w') (hS : ∀ i, F i → ¬ S i) : RAr w' F b n L := by
  obtain ⟨A, c, h1, h2, h3, h4⟩ := h
  exact ⟨A, c, h1.fr f (hS b h3), h2.fr f fun g hg => hS g (h4 g hg), h3, h4⟩
theorem RAr.fr0 (h : RAr w F b n L) (f : Fr (fun _ => False) w w') : RAr w' F b n L := h.fr f fun _ _ => id
theorem RAr.lt (h : RAr w F b n L) : b < w.heap.size := by
  obtain ⟨A, c, h1, _⟩ := h
  exact h1.lt
end
theorem info56 : (Try.prog.info? 56).map (fun i => (i.zero, i.size, i.bytes)) = some (some (.agg #[.int .i64 0, .int .i64 0]), 2, 16) := by kernel_rfl
/-- A block shares a cell with another; it has all of it. -/
def hit (x j : Nat) (p : Nat × Nat) : Bool := decide (p.1 < x + 2 ^ j) && decide (x < p.1 + 2 ^ p.2)
def cov (x j : Nat) (p : Nat × Nat) : Bool := decide (p.1 ≤ x) && decide (x + 2 ^ j ≤ p.1 + 2 ^ p.2)
theorem hit_iff {x j : Nat} {p : Nat × Nat} : hit x j p = true ↔ ¬ Dis x j p.1 p.2 := by
  unfold hit Dis
  rw [Bool.and_eq_true, decide_eq_true_eq, decide_eq_true_eq]
  omega
theorem hit_none {T : Tk} {x j : Nat} : T.countP (hit x j) = 0 ↔ clr T x j := by
  rw [List.countP_eq_zero]
  unfold clr
  constructor
  · intro h p hp
    have := h p hp
    rw [hit_iff] at this
    exact Classical.not_not.1 this
  · intro h p hp
    rw [hit_iff]
    exact fun k => k (h p hp)
set_option maxHeartbeats 800000 in
theorem size_any (w : World) (n : Nat) (hn : n ≤ 16) : Calls Try.prog 33 #[.int .i64 (n : Int)] w fun e w' => e = .returned (.int .i64 ((2 ^ n : Nat) : Int)) ∧ w = w' := by
  go_enter Try.func33, Try.ntmps33
  go_wp2_with fail
  go_loop [3, 4] (fun v i => ∃ j : Nat, j ≤ n ∧ v = .int .i64 ((2 ^ j : Nat) : Int) ∧ i = .int .i64 (j : Int)) (fun _ i => 20 - (intOf i).toNat)
  case atStart => exact ⟨0, Nat.zero_le _, rfl, rfl⟩
  case round =>
    obtain ⟨j, hj, rfl, rfl⟩ := hrel
    by_cases hjn : j < n
    · have hp : 2 ^ j ≤ 65536 := Nat.le_trans (Nat.pow_le_pow_right (by omega) (show j ≤ 16 by omega)) (Nat.le_refl (2 ^ 16))
      have HP := Lib.hid (p2s j)
      generalize 2 ^ j = p at *
      have hjI : (j : Int) < (n : Int) := by omega
      go_wp2_with fail
      go_round
      case rel => exact ⟨j + 1, by omega, by rw [HP.out]; go_num, by go_num⟩
      case measure => simp [intOf]; omega
    · obtain rfl : j = n := by omega
      go_wp2_with fail
      go_ret
      exact ⟨rfl, rfl⟩
theorem size_q (w : World) (n : Nat) (hn : n ≤ 16) : Calls Try.prog 33 #[.int .i64 (n : Int)] w fun e w' => e = .returned (.int .i64 ((2 ^ n : Nat) : Int)) ∧ w' = w :=
  (size_any w n hn).mono fun _ _ ⟨h1, h2⟩ => ⟨h1, h2.symm⟩
set_option maxRecDepth 100000 in
set_option maxHeartbeats 3200000 in
theorem within_any {w : World} {b n : Nat} {F : Nat → Prop} {L : Tk} (h : RAr w F b n L) (hT : TOk n L) (hn : n ≤ 16) (hlen : L.length ≤ 65536) (x o : Nat) (hx : x ≤ 65536) (ho : o ≤ 16) :
    Calls Try.prog 37 #[.pointer (some ⟨b, 0, none⟩), .int .i64 (x : Int), .int .i64 (o : Int)] w fun e w' => e = .returned (.int .i64 (L.countP (hit x o) : Int)) ∧ Fr (fun _ => False) w w' := by
  have H := Lib.hid h
  have HT := Lib.hid hT
  have HPn := Lib.hid (pow16 hn)
  have HPo := Lib.hid (show 2 ^ o ≤ 65536 from pow16 ho)
  clear h hT
  go_enter Try.func37, Try.ntmps37
  go_wp2_with fail
  go_loopw [7, 8] (fun c i wr => ∃ j : Nat, j ≤ L.length ∧ c = .int .i64 ((L.take j).countP (hit x o) : Int) ∧ i = .int .i64 (j : Int) ∧ Fr (fun _ => False) w wr) (fun _ i _ => L.length + 1 - (intOf i).toNat)
  case atStart => exact ⟨0, Nat.zero_le _, rfl, rfl, Fr.refl _ _⟩
  case round =>
    obtain ⟨j, hj, rfl, rfl, hF⟩ := hrel
    have HCL := Lib.hid (show (L.take j).countP (hit x o) ≤ j from Nat.le_trans List.countP_le_length (by rw [List.length_take]; omega))
    have F1 := Lib.hid hF
    have R1 := Lib.hid (H.out.fr0 hF)
    have hj16 : (j : Int) ≤ 65536 := by omega
    clear hF
    obtain ⟨A, c, hB, hO, _⟩ := R1.out
    have HO := Lib.hid hO
    have b1 := hB.cell 1
    simp only [List.getElem?_toArray, List.getElem?_cons_zero, List.getElem?_cons_succ] at b1
    have hbl := hB.lt
    clear hB hO
    by_cases hjl : j < L.length
    · have hjI : (j : Int) < (L.length : Int) := by omega
      obtain ⟨y, k, hp⟩ : ∃ y k, L[j]? = some (y, k) := ⟨_, _, List.getElem?_eq_getElem hjl⟩
      obtain ⟨d1, d2, d3⟩ := HT.out.dy (y, k) (List.mem_of_getElem? hp)
      obtain ⟨g, rfl⟩ := HO.out.some_ (by omega)
      have hgl := HO.out.lt rfl
      have g0 := HO.out.cell (j * 2) (by omega)
      have g1 := HO.out.cell (j * 2 + 1) (by omega)
      rw [(bls_cell L j (y, k) hp).1] at g0
      rw [(bls_cell L j (y, k) hp).2] at g1
      have hk16 : k ≤ 16 := by simp at d2; omega
      have HY := Lib.hid (show y + 2 ^ k ≤ 65536 by have := HPn.out; simp at d3; omega)
      have HTK := Lib.hid (show L.take (j + 1) = L.take j ++ [(y, k)] by rw [List.take_add_one, hp]; rfl)
      have HJ := Lib.hid hjl
      have hw1 : IntKind.i64.wrap ((x : Int) + (2 : Int) ^ o) = (x : Int) + (2 : Int) ^ o := by
        have := HPo.out
        have := p2 o
        rw [← powI]
        exact IntWalk.i64_in _ ⟨by omega, by omega⟩
      have hw2 : IntKind.i64.wrap ((y : Int) + (2 : Int) ^ k) = (y : Int) + (2 : Int) ^ k := by
        have := HY.out
        have := p2 k
        rw [← powI]
        exact IntWalk.i64_in _ ⟨by omega, by omega⟩
      clear d1 d2 d3 hp
      have HF2 := Lib.hid (fun nq : Nat => (F1.out.alloc (.cells #[.int .i64 (y : Int), .int .i64 (k : Int)] 56)).drewN nq)
      have hcl : ((L.take j).countP (hit x o) : Int) ≤ 65536 := by have := HCL.out; omega
      by_cases h1 : y < x + 2 ^ o
      · have hg1 : decide ((y : Int) < (x : Int) + (2 : Int) ^ o) = true := by
          apply decide_eq_true
          rw [← powI]; omega
        by_cases h2 : x < y + 2 ^ k
        · have hg2 : decide ((x : Int) < (y : Int) + (2 : Int) ^ k) = true := by
            apply decide_eq_true
            rw [← powI]; omega
          have HH := Lib.hid (show hit x o (y, k) = true by unfold hit; rw [Bool.and_eq_true, decide_eq_true_eq, decide_eq_true_eq]; exact ⟨h1, h2⟩)
          clear h1 h2
          go_wp2_with fail
          go_quiet ((go_at_call 33; (first | exact Calls.quiet_of_same (size_q _ _ ho) | exact Calls.quiet_of_same (size_q _ _ hk16))))
          clear hw1 hw2
          go_wp2_with fail
          go_roundw
          case rel => exact ⟨j + 1, HJ.out, by rw [HTK.out, List.countP_append]; simp [HH.out], by go_num, HF2.out _⟩
          case measure => simp [intOf]; omega
        · have hg2 : decide ((x : Int) < (y : Int) + (2 : Int) ^ k) = false := by
            apply decide_eq_false
            rw [← powI]; omega
          have HH := Lib.hid (show hit x o (y, k) = false by unfold hit; rw [Bool.and_eq_false_iff, decide_eq_false_iff_not, decide_eq_false_iff_not]; exact .inr h2)
          clear h1 h2
          go_wp2_with fail
          go_quiet ((go_at_call 33; (first | exact Calls.quiet_of_same (size_q _ _ ho) | exact Calls.quiet_of_same (size_q _ _ hk16))))
          clear hw1 hw2
          go_wp2_with fail
          go_roundw
          case rel => exact ⟨j + 1, HJ.out, by rw [HTK.out, List.countP_append]; simp [HH.out], by go_num, HF2.out _⟩
          case measure => simp [intOf]; omega
      · have hg1 : decide ((y : Int) < (x : Int) + (2 : Int) ^ o) = false := by
          apply decide_eq_false
          rw [← powI]; omega
        have HH := Lib.hid (show hit x o (y, k) = false by unfold hit; rw [Bool.and_eq_false_iff, decide_eq_false_iff_not, decide_eq_false_iff_not]; exact .inl h1)
        clear h1
        go_wp2_with fail
        go_quiet ((go_at_call 33; (first | exact Calls.quiet_of_same (size_q _ _ ho) | exact Calls.quiet_of_same (size_q _ _ hk16))))
        clear hw1 hw2
        go_wp2_with fail
        go_roundw
        case rel => exact ⟨j + 1, HJ.out, by rw [HTK.out, List.countP_append]; simp [HH.out], by go_num, HF2.out _⟩
        case measure => simp [intOf]; omega
    · have hjI : ¬ (j : Int) < (L.length : Int) := by omega
      obtain rfl : j = L.length := by omega
      go_wp2_with fail
      go_ret
      refine ⟨?_, F1.out⟩
      simp
set_option maxRecDepth 100000 in
set_option maxHeartbeats 3200000 in
theorem cover_any {w : World} {b n : Nat} {F : Nat → Prop} {L : Tk} (h : RAr w F b n L) (hT : TOk n L) (hn : n ≤ 16) (hlen : L.length ≤ 65536) (x o : Nat) (hx : x ≤ 65536) (ho : o ≤ 16) :
    Calls Try.prog 38 #[.pointer (some ⟨b, 0, none⟩), .int .i64 (x : Int), .int .i64 (o : Int)] w fun e w' => e = .returned (.bool (L.any (cov x o))) ∧ Fr (fun _ => False) w w' := by
  have H := Lib.hid h
  have HT := Lib.hid hT
  have HPn := Lib.hid (pow16 hn)
  have HPo := Lib.hid (show 2 ^ o ≤ 65536 from pow16 ho)
  clear h hT
  go_enter Try.func38, Try.ntmps38
  go_wp2_with fail
  go_loopw [7] (fun i wr => ∃ j : Nat, j ≤ L.length ∧ i = .int .i64 (j : Int) ∧ (L.take j).any (cov x o) = false ∧ Fr (fun _ => False) w wr) (fun i _ => L.length + 1 - (intOf i).toNat)
  case atStart => exact ⟨0, Nat.zero_le _, rfl, rfl, Fr.refl _ _⟩
  case round =>
    obtain ⟨j, hj, rfl, hc, hF⟩ := hrel
    have HC := Lib.hid hc
    clear hc
    have F1 := Lib.hid hF
    have R1 := Lib.hid (H.out.fr0 hF)
    have hj16 : (j : Int) ≤ 65536 := by omega
    clear hF
    obtain ⟨A, c, hB, hO, _⟩ := R1.out
    have HO := Lib.hid hO
    have b1 := hB.cell 1
    simp only [List.getElem?_toArray, List.getElem?_cons_zero, List.getElem?_cons_succ] at b1
    have hbl := hB.lt
    clear hB hO
    by_cases hjl : j < L.length
    · have hjI : (j : Int) < (L.length : Int) := by omega
      obtain ⟨y, k, hp⟩ : ∃ y k, L[j]? = some (y, k) := ⟨_, _, List.getElem?_eq_getElem hjl⟩
      obtain ⟨d1, d2, d3⟩ := HT.out.dy (y, k) (List.mem_of_getElem? hp)
      obtain ⟨g, rfl⟩ := HO.out.some_ (by omega)
      have hgl := HO.out.lt rfl
      have g0 := HO.out.cell (j * 2) (by omega)
      have g1 := HO.out.cell (j * 2 + 1) (by omega)
      rw [(bls_cell L j (y, k) hp).1] at g0
      rw [(bls_cell L j (y, k) hp).2] at g1
      have hk16 : k ≤ 16 := by simp at d2; omega
      have HY := Lib.hid (show y + 2 ^ k ≤ 65536 by have := HPn.out; simp at d3; omega)
      have HTK := Lib.hid (show L.take (j + 1) = L.take j ++ [(y, k)] by rw [List.take_add_one, hp]; rfl)
      have HJ := Lib.hid hjl
      have hw1 : IntKind.i64.wrap ((x : Int) + (2 : Int) ^ o) = (x : Int) + (2 : Int) ^ o := by
        have := HPo.out
        have := p2 o
        rw [← powI]
        exact IntWalk.i64_in _ ⟨by omega, by omega⟩
      have hw2 : IntKind.i64.wrap ((y : Int) + (2 : Int) ^ k) = (y : Int) + (2 : Int) ^ k := by
        have := HY.out
        have := p2 k
        rw [← powI]
        exact IntWalk.i64_in _ ⟨by omega, by omega⟩
      clear d1 d2 d3 hp
      have HF2 := Lib.hid (fun nq : Nat => (F1.out.alloc (.cells #[.int .i64 (y : Int), .int .i64 (k : Int)] 56)).drewN nq)
      by_cases h1 : y ≤ x
      · have hg1 : decide (y ≤ x) = true := by
          apply decide_eq_true
          exact h1
        by_cases h2 : x + 2 ^ o ≤ y + 2 ^ k
        · have hg2 : decide ((x : Int) + (2 : Int) ^ o ≤ (y : Int) + (2 : Int) ^ k) = true := by
            apply decide_eq_true
            rw [← powI, ← powI]; omega
          have HH := Lib.hid (show cov x o (y, k) = true by unfold cov; rw [Bool.and_eq_true, decide_eq_true_eq, decide_eq_true_eq]; exact ⟨h1, h2⟩)
          clear h1 h2
          go_wp2_with fail
          go_quiet ((go_at_call 33; (first | exact Calls.quiet_of_same (size_q _ _ ho) | exact Calls.quiet_of_same (size_q _ _ hk16))))
          clear hw1 hw2
          go_wp2_with fail
          go_ret
          refine ⟨?_, HF2.out _⟩
          have : L.any (cov x o) = true := by
            rw [← List.take_append_drop (j + 1) L, List.any_append, HTK.out, List.any_append]
            simp [HH.out]
          rw [this]
          rfl
        · have hg2 : decide ((x : Int) + (2 : Int) ^ o ≤ (y : Int) + (2 : Int) ^ k) = false := by
            apply decide_eq_false
            rw [← powI, ← powI]; omega
          have HH := Lib.hid (show cov x o (y, k) = false by unfold cov; rw [Bool.and_eq_false_iff, decide_eq_false_iff_not, decide_eq_false_iff_not]; exact .inr h2)
          clear h1 h2
          go_wp2_with fail
          go_quiet ((go_at_call 33; (first | exact Calls.quiet_of_same (size_q _ _ ho) | exact Calls.quiet_of_same (size_q _ _ hk16))))
          clear hw1 hw2
          go_wp2_with fail
          go_roundw
          case rel => exact ⟨j + 1, HJ.out, by go_num, by rw [HTK.out, List.any_append, HC.out]; simp [HH.out], HF2.out _⟩
          case measure => simp [intOf]; omega
      · have hg1 : decide (y ≤ x) = false := by
          apply decide_eq_false
          exact h1
        have HH := Lib.hid (show cov x o (y, k) = false by unfold cov; rw [Bool.and_eq_false_iff, decide_eq_false_iff_not, decide_eq_false_iff_not]; exact .inl h1)
        clear h1
        go_wp2_with fail
        go_quiet (fail)
        clear hw1 hw2
        go_wp2_with fail
        go_roundw
        case rel => exact ⟨j + 1, HJ.out, by go_num, by rw [HTK.out, List.any_append, HC.out]; simp [HH.out], HF2.out _⟩
        case measure => simp [intOf]; omega
    · have hjI : ¬ (j : Int) < (L.length : Int) := by omega
      obtain rfl : j = L.length := by omega
      have HC2 := Lib.hid (show L.any (cov x o) = false by have := HC.out; rwa [List.take_length] at this)
      go_wp2_with fail
      go_ret
      exact ⟨by rw [HC2.out]; rfl, F1.out⟩
end Go.Proofs.Ytncjhfofmeamdaa
