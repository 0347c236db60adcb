/- The contracts of ring.Ring at Step, a struct of three cells. -/
import Derived.Test.YteggdpkjbbjcdaaSteps
import Derived.Deep.RegionWith
namespace Go.Proofs.Yteggdpkjbbjcdaa
open Go.RowKit

abbrev Stp := Int × Int × ByteArray
def stepCells (x : Stp) : List Value := [.int .i64 x.1, .int .i64 x.2.1, .string x.2.2]

/-- Block b is a ring of m places for steps (three cells each, in block g), o were popped, xs are in. -/
def RingS (w : World) (b g m o : Nat) (xs : List Stp) : Prop :=
  (∃ k, k ≤ 16 ∧ m = 2 ^ k) ∧ g ≠ b ∧ xs.length ≤ m ∧ ∃ cs : Array Value, Blk w b 72 #[.slice (some ⟨g, 0, none⟩) m m, .int .u64 ((o + xs.length : Nat) : Int), .int .u64 (o : Int)] ∧ Blk w g 29 cs ∧ cs.size = m * 3 ∧
    ∀ j x, xs[j]? = some x → cs[(o + j) % m * 3]? = some (.int .i64 x.1) ∧ cs[(o + j) % m * 3 + 1]? = some (.int .i64 x.2.1) ∧ cs[(o + j) % m * 3 + 2]? = some (.string x.2.2)

theorem RingS.fr {w w' : World} {b g m o : Nat} {xs : List Stp} {S : Nat → Prop} (h : RingS w b g m o xs) (k : Fr S w w') (hb : ¬ S b) (hg : ¬ S g) : RingS w' b g m o xs := by
  obtain ⟨h1, h2, h3, cs, hB, hG, h4⟩ := h
  exact ⟨h1, h2, h3, cs, hB.fr k hb, hG.fr k hg, h4⟩
theorem RingS.lt {w : World} {b g m o : Nat} {xs : List Stp} (h : RingS w b g m o xs) : b < w.heap.size ∧ g < w.heap.size := by
  obtain ⟨h1, h2, h3, cs, hB, hG, h4⟩ := h
  exact ⟨hB.lt, hG.lt⟩
theorem RingS.drewN {w : World} {b g m o : Nat} {xs : List Stp} (h : RingS w b g m o xs) (n : Nat) : RingS (w.drewN n) b g m o xs := h
theorem RingS.open_ {w : World} {b g m o : Nat} {xs : List Stp} (h : RingS w b g m o xs) : 0 < m ∧ m ≤ 65536 ∧ g ≠ b ∧ xs.length ≤ m ∧ ∀ n : Nat, n < 4294967296 → bits .and .u64 (n : Int) ((m : Int) - 1) = ((n % m : Nat) : Int) := by
  obtain ⟨⟨k, hk, rfl⟩, hne, hle, _⟩ := h
  exact ⟨Nat.two_pow_pos k, Nat.pow_le_pow_right (n := 2) (j := 16) (by omega) hk, hne, hle, fun n hn => u64_mask n k hn hk⟩

/-- Three cells are stored, one behind the other. -/
def put3 (cs : Array Value) (p : Nat) (a b c : Value) : Array Value := ((cs.setIfInBounds p a).setIfInBounds (p + 1) b).setIfInBounds (p + 2) c
theorem put3_size (cs : Array Value) (p : Nat) (a b c : Value) : (put3 cs p a b c).size = cs.size := by simp [put3]
theorem put3_ne {cs : Array Value} {p i : Nat} {a b c : Value} (h : i < p ∨ p + 2 < i) : (put3 cs p a b c)[i]? = cs[i]? := by
  unfold put3
  rw [Array.getElem?_setIfInBounds_ne (by omega), Array.getElem?_setIfInBounds_ne (by omega), Array.getElem?_setIfInBounds_ne (by omega)]
theorem put3_0 {cs : Array Value} {p : Nat} {a b c : Value} (h : p + 2 < cs.size) : (put3 cs p a b c)[p]? = some a := by
  unfold put3
  rw [Array.getElem?_setIfInBounds_ne (by omega), Array.getElem?_setIfInBounds_ne (by omega), Array.getElem?_setIfInBounds_self_of_lt (by omega)]
theorem put3_1 {cs : Array Value} {p : Nat} {a b c : Value} (h : p + 2 < cs.size) : (put3 cs p a b c)[p + 1]? = some b := by
  unfold put3
  rw [Array.getElem?_setIfInBounds_ne (by omega), Array.getElem?_setIfInBounds_self_of_lt (by simp; omega)]
theorem put3_2 {cs : Array Value} {p : Nat} {a b c : Value} (h : p + 2 < cs.size) : (put3 cs p a b c)[p + 2]? = some c := by
  unfold put3
  rw [Array.getElem?_setIfInBounds_self_of_lt (by simp; omega)]
theorem Blk.put3_ {w : World} {g : Nat} {t : TypeId} {cs : Array Value} (h : Blk w g t cs) (p : Nat) (a b c : Value) : Blk (((w.setCell ⟨g, p, none⟩ a).setCell ⟨g, p + 1, none⟩ b).setCell ⟨g, p + 2, none⟩ c) g t (put3 cs p a b c) :=
  ((h.set_ p a).set_ (p + 1) b).set_ (p + 2) c

theorem mul3_ne {a b : Nat} (h : a ≠ b) : a * 3 + 2 < b * 3 ∨ b * 3 + 2 < a * 3 := by omega

def Holds3 (cs : Array Value) (o m : Nat) (xs : List Stp) : Prop :=
  ∀ j x, xs[j]? = some x → cs[(o + j) % m * 3]? = some (.int .i64 x.1) ∧ cs[(o + j) % m * 3 + 1]? = some (.int .i64 x.2.1) ∧ cs[(o + j) % m * 3 + 2]? = some (.string x.2.2)

theorem ring3_push {cs : Array Value} {xs : List Stp} {o m : Nat} {x n : Int} {s : ByteArray} (hsz : cs.size = m * 3) (hlt : xs.length < m) (hx : Holds3 cs o m xs) :
    Holds3 (put3 cs ((o + xs.length) % m * 3) (.int .i64 x) (.int .i64 n) (.string s)) o m (xs ++ [(x, n, s)]) := by
  intro j y hj
  have hp : (o + xs.length) % m < m := Nat.mod_lt _ (by omega)
  rcases Nat.lt_or_ge j xs.length with h | h
  · rw [List.getElem?_append_left h] at hj
    have hne := mul3_ne (mod_ne (o := o) h (by omega : xs.length < j + m))
    obtain ⟨h0, h1, h2⟩ := hx j y hj
    exact ⟨by rw [put3_ne (by omega)]; exact h0, by rw [put3_ne (by omega)]; exact h1, by rw [put3_ne (by omega)]; exact h2⟩
  · have hjl : j < (xs ++ [(x, n, s)]).length := (List.getElem?_eq_some_iff.1 hj).1
    simp at hjl
    obtain rfl : j = xs.length := by omega
    simp at hj
    subst hj
    exact ⟨put3_0 (by omega), put3_1 (by omega), put3_2 (by omega)⟩

theorem ring3_pop {cs : Array Value} {xs : List Stp} {y : Stp} {o m : Nat} {a b c : Value} (hle : xs.length + 1 ≤ m) (hx : Holds3 cs o m (y :: xs)) :
    Holds3 (put3 cs (o % m * 3) a b c) (o + 1) m xs := by
  intro j z hj
  have hjl : j < xs.length := (List.getElem?_eq_some_iff.1 hj).1
  have hne := mul3_ne (mod_ne (o := o) (i := 0) (j := j + 1) (m := m) (by omega) (by omega))
  obtain ⟨h0, h1, h2⟩ := hx (j + 1) z (by simpa using hj)
  rw [show o + 1 + j = o + (j + 1) from by omega]
  simp only [Nat.add_zero] at hne
  exact ⟨by rw [put3_ne (by omega)]; exact h0, by rw [put3_ne (by omega)]; exact h1, by rw [put3_ne (by omega)]; exact h2⟩

set_option maxHeartbeats 400000 in
theorem cell_stp (b g m p : Nat) (i o : Value) (n : Int) (w : World) (hB : Blk w b 72 #[.slice (some ⟨g, 0, none⟩) m m, i, o]) (hm : 0 < m) (h1 : m ≤ 65536) (hp : bits .and .u64 n (m - 1) = p) (hpm : p < m) :
    Calls Try.prog 42 #[.pointer (some ⟨b, 0, none⟩), .int .u64 n] w fun e w' => e = .returned (.pointer (some ⟨g, p * 3, none⟩)) ∧ ∃ k, w' = w.drewN k := by
  have hc : w.cell? ⟨b, 0, none⟩ = some (.slice (some ⟨g, 0, none⟩) m m) := hB.cell 0
  clear hB
  have hx : (p : Int) < m := by omega
  have hx0 : (0 : Int) ≤ p := by omega
  go_enter Try.func42, Try.ntmps42
  go_wp2
  go_quiet (fail)
  go_wp2
  go_ret
  exact ⟨rfl, _, rfl⟩

set_option maxHeartbeats 800000 in
theorem push_stp (b g m o : Nat) (xs : List Stp) (x n : Int) (s : ByteArray) (w : World) (hR : RingS w b g m o xs) (ho : o + xs.length < 4000000000) :
    Calls Try.prog 24 #[.pointer (some ⟨b, 0, none⟩), .agg #[.int .i64 x, .int .i64 n, .string s]] w fun e w' => e = .returned (.bool (decide (xs.length < m))) ∧
      RingS w' b g m o (if xs.length < m then xs ++ [(x, n, s)] else xs) ∧ Fr (fun i => i = b ∨ i = g) w w' := by
  obtain ⟨h20, h2, hne, hle, hmk⟩ := hR.open_
  obtain ⟨hpow, _, _, cs, hB0, hG0, hsz, hx⟩ := hR
  have HV := Lib.hid (Blk.new w 29 #[.int .i64 x, .int .i64 n, .string s])
  have hvb : w.heap.size ≠ b ∧ w.heap.size ≠ g := ⟨by have := hB0.lt; omega, by have := hG0.lt; omega⟩
  have HF0 := Lib.hid ((Fr.refl (fun i => i = b ∨ i = g) w).alloc (.cells #[.int .i64 x, .int .i64 n, .string s] 29))
  have hB := hB0.alloc (.cells #[.int .i64 x, .int .i64 n, .string s] 29)
  have hG := hG0.alloc (.cells #[.int .i64 x, .int .i64 n, .string s] 29)
  have c0 := hB.cell 0
  have c1 := hB.cell 1
  have c2 := hB.cell 2
  have f1 := hB.frozen 1
  simp only [List.getElem?_toArray, List.getElem?_cons_zero, List.getElem?_cons_succ] at c0 c1 c2
  have hmod : (o + xs.length) % m < m := Nat.mod_lt _ h20
  have HM := Lib.hid (hmk (o + xs.length) (by omega))
  have HP := Lib.hid hpow
  have HB := Lib.hid hB
  have HG := Lib.hid hG
  have HX := Lib.hid hx
  clear hB hG hx hmk hpow hB0 hG0
  by_cases hlt : xs.length < m
  · have HR := Lib.hid (ring3_push (x := x) (n := n) (s := s) hsz hlt HX.out)
    have hps : (o + xs.length) % m * 3 + 2 < cs.size := by omega
    generalize hn : (o + xs.length) % m = p at *
    generalize hxl : xs.length = q at *
    have hd : decide (q < m) = true := by simp [hlt]
    rw [hd, if_pos hlt]
    have hmn : ((q : Int) == (m : Int)) = false := by simp; omega
    have HL := Lib.hid hxl
    have HS := Lib.hid hsz
    have HE := Lib.hid (show q + 1 ≤ m ∧ p * 3 + 2 < cs.size ∧ g ≠ b from ⟨by omega, hps, hne⟩)
    obtain ⟨u0, hu0⟩ : ∃ u, cs[p * 3]? = some u := ⟨_, Array.getElem?_eq_getElem (by omega)⟩
    obtain ⟨u1, hu1⟩ : ∃ u, cs[p * 3 + 1]? = some u := ⟨_, Array.getElem?_eq_getElem (by omega)⟩
    obtain ⟨u2, hu2⟩ : ∃ u, cs[p * 3 + 2]? = some u := ⟨_, Array.getElem?_eq_getElem (by omega)⟩
    have g0 : ((w.alloc (.cells #[.int .i64 x, .int .i64 n, .string s] 29)).cell? ⟨g, p * 3, none⟩) = some u0 := (HG.out.cell _).trans hu0
    have g1 : ((w.alloc (.cells #[.int .i64 x, .int .i64 n, .string s] 29)).cell? ⟨g, p * 3 + 1, none⟩) = some u1 := (HG.out.cell _).trans hu1
    have g2 : ((w.alloc (.cells #[.int .i64 x, .int .i64 n, .string s] 29)).cell? ⟨g, p * 3 + 2, none⟩) = some u2 := (HG.out.cell _).trans hu2
    have z0 : (w.alloc (.cells #[.int .i64 x, .int .i64 n, .string s] 29)).frozen? ⟨g, p * 3, none⟩ = false := HG.out.frozen _
    have z1 : (w.alloc (.cells #[.int .i64 x, .int .i64 n, .string s] 29)).frozen? ⟨g, p * 3 + 1, none⟩ = false := HG.out.frozen _
    have z2 : (w.alloc (.cells #[.int .i64 x, .int .i64 n, .string s] 29)).frozen? ⟨g, p * 3 + 2, none⟩ = false := HG.out.frozen _
    have v0 : (w.alloc (.cells #[.int .i64 x, .int .i64 n, .string s] 29)).cell? ⟨w.heap.size, 0, none⟩ = some (.int .i64 x) := HV.out.cell 0
    have v1 : (w.alloc (.cells #[.int .i64 x, .int .i64 n, .string s] 29)).cell? ⟨w.heap.size, 1, none⟩ = some (.int .i64 n) := HV.out.cell 1
    have v2 : (w.alloc (.cells #[.int .i64 x, .int .i64 n, .string s] 29)).cell? ⟨w.heap.size, 2, none⟩ = some (.string s) := HV.out.cell 2
    clear hd hxl hn hsz hu0 hu1 hu2
    go_enter Try.func24, Try.ntmps24
    go_wp2_with fail
    refine (load_any _ _ _ c1).mono ?_; rintro e w' ⟨rfl, rfl⟩
    go_wp2_with fail
    go_quiet ((go_at_call 39; exact Calls.quiet_of_same (load_q _ _ _ (by assumption))))
    go_wp2_with fail
    go_region_with (go_at_call 42; refine (cell_stp b g m p _ _ _ _ ((HB.out).drewN _) (by omega) (by omega) HM.out (by assumption)).mono ?_; rintro e w' ⟨rfl, k2, rfl⟩)
    all_goals
      go_wp2_with fail
      have hG1 := Blk.put3_ ((HG.out).drewN (nq + 1 + k2)) (p * 3) (.int .i64 x) (.int .i64 n) (.string s)
      have hB1 := Blk.far (Blk.far (Blk.far ((HB.out).drewN (nq + 1 + k2)) (p := ⟨g, p * 3, none⟩) (Ne.symm HE.out.2.2) (.int .i64 x)) (p := ⟨g, p * 3 + 1, none⟩) (Ne.symm HE.out.2.2) (.int .i64 n)) (p := ⟨g, p * 3 + 2, none⟩) (Ne.symm HE.out.2.2) (.string s)
      refine (store_any _ _ _ _ (hB1.cell 1) (hB1.frozen 1)).mono ?_
      rintro e w' ⟨rfl, rfl⟩
      have hB2 := Lib.hid (hB1.set_ 1 (.int .u64 (↑o + ↑q + 1)))
      have hG2 := Lib.hid (hG1.far (p := ⟨b, 1, none⟩) HE.out.2.2 (.int .u64 (↑o + ↑q + 1)))
      have hF2 := Lib.hid ((((((HF0.out).drewN (nq + 1 + k2)).setCell (p := ⟨g, p * 3, none⟩) (.inl (.inr rfl)) (.int .i64 x)).setCell (p := ⟨g, p * 3 + 1, none⟩) (.inl (.inr rfl)) (.int .i64 n)).setCell (p := ⟨g, p * 3 + 2, none⟩) (.inl (.inr rfl)) (.string s)).setCell (p := ⟨b, 1, none⟩) (.inl (.inl rfl)) (.int .u64 (↑o + ↑q + 1)))
      clear hB1 hG1
      go_wp2_with fail
      go_ret
      refine ⟨rfl, ⟨HP.out, HE.out.2.2, by simp [HL.out]; exact HE.out.1, _, ?_, hG2.out, by rw [put3_size, HS.out], HR.out⟩, hF2.out⟩
      have := hB2.out
      simpa [HL.out, Int.add_assoc] using this
  · have hfull : xs.length = m := by omega
    rw [hfull] at c1
    have hd : decide (xs.length < m) = false := by simp [hlt]
    rw [hd, if_neg hlt]
    clear hd hlt hfull
    go_enter Try.func24, Try.ntmps24
    go_wp2_with (go_at_call 39; refine (load_any _ _ _ c1).mono ?_; rintro e w' ⟨rfl, rfl⟩)
    go_quiet ((go_at_call 39; exact Calls.quiet_of_same (load_q _ _ _ (by assumption))))
    go_wp2_with fail
    go_ret
    exact ⟨rfl, ⟨HP.out, hne, hle, cs, (HB.out).drewN _, (HG.out).drewN _, hsz, HX.out⟩, (HF0.out).drewN _⟩

/-- A step of zeroes, in a variable of its own. -/
def zeroObj : Obj := .cells #[.int .i64 0, .int .i64 0, .string ⟨#[]⟩] 29

set_option maxHeartbeats 800000 in
theorem pop_none_stp (b g m o : Nat) (w : World) (hR : RingS w b g m o []) :
    Calls Try.prog 25 #[.pointer (some ⟨b, 0, none⟩)] w fun e w' => e = .returned (.tuple #[.agg #[.int .i64 0, .int .i64 0, .string ⟨#[]⟩], .bool false]) ∧ Fr (fun _ => False) w w' := by
  obtain ⟨_, _, _, cs, hB, hG, hsz, hx⟩ := hR
  have HF := Lib.hid (((Fr.refl (fun _ => False) w).alloc zeroObj).alloc zeroObj)
  have hB2 := (hB.alloc zeroObj).alloc zeroObj
  have hZ1 := (Blk.new w 29 #[.int .i64 0, .int .i64 0, .string ⟨#[]⟩]).alloc zeroObj
  have hZ2 := Blk.new (w.alloc zeroObj) 29 #[.int .i64 0, .int .i64 0, .string ⟨#[]⟩]
  have e1 : (w.alloc zeroObj).heap.size = w.heap.size + 1 := by simp
  rw [e1] at hZ2
  have c1 := hB2.cell 1
  have c2 := hB2.cell 2
  simp only [List.getElem?_toArray, List.getElem?_cons_zero, List.getElem?_cons_succ, List.length_nil, Nat.add_zero] at c1 c2
  have z0 := hZ2.cell 0
  have z1 := hZ2.cell 1
  have z2 := hZ2.cell 2
  have y0 := hZ1.cell 0
  have y1 := hZ1.cell 1
  have y2 := hZ1.cell 2
  have q0 := hZ1.frozen 0
  have q1 := hZ1.frozen 1
  have q2 := hZ1.frozen 2
  simp only [List.getElem?_toArray, List.getElem?_cons_zero, List.getElem?_cons_succ] at z0 z1 z2 y0 y1 y2
  have HZ := Lib.hid hZ1
  clear hB hG hsz hx e1 hB2 hZ2 hZ1
  unfold zeroObj at c1 c2 z0 z1 z2 y0 y1 y2 q0 q1 q2
  go_enter Try.func25, Try.ntmps25
  go_wp2_with fail
  refine (load_any _ _ _ c2).mono ?_; rintro e w' ⟨rfl, rfl⟩
  go_wp2_with fail
  refine (load_any _ _ _ c1).mono ?_; rintro e w' ⟨rfl, rfl⟩
  go_wp2_with fail
  exact bodyPost_ret (v := .tuple #[.agg #[.int .i64 0, .int .i64 0, .string ⟨#[]⟩], .bool false]) (by simp [results, Try.results25, go_sem, y0, y1, y2]) rfl ⟨rfl, HF.out⟩

set_option maxHeartbeats 1600000 in
theorem pop_some_stp (b g m o : Nat) (x n : Int) (s : ByteArray) (xs : List Stp) (w : World) (hR : RingS w b g m o ((x, n, s) :: xs)) (ho : o + xs.length + 1 < 4000000000) :
    Calls Try.prog 25 #[.pointer (some ⟨b, 0, none⟩)] w fun e w' => e = .returned (.tuple #[.agg #[.int .i64 x, .int .i64 n, .string s], .bool true]) ∧
      RingS w' b g m (o + 1) xs ∧ Fr (fun i => i = b ∨ i = g) w w' := by
  obtain ⟨h20, h2, hne, hle, hmk⟩ := hR.open_
  obtain ⟨hpow, _, _, cs, hB, hG, hsz, hx⟩ := hR
  simp only [List.length_cons] at hle
  have hbl := hB.lt
  have hgl := hG.lt
  have hF := ((Fr.refl (fun i => i = b ∨ i = g) w).alloc zeroObj).alloc zeroObj
  have hB2 := (hB.alloc zeroObj).alloc zeroObj
  have hG2 := (hG.alloc zeroObj).alloc zeroObj
  have hZ1 := (Blk.new w 29 #[.int .i64 0, .int .i64 0, .string ⟨#[]⟩]).alloc zeroObj
  have hZ2 := Blk.new (w.alloc zeroObj) 29 #[.int .i64 0, .int .i64 0, .string ⟨#[]⟩]
  have e1 : (w.alloc zeroObj).heap.size = w.heap.size + 1 := by simp
  rw [e1] at hZ2
  have hmod : o % m < m := Nat.mod_lt _ h20
  have hps : o % m * 3 + 2 < cs.size := by omega
  obtain ⟨x0, x1, x2⟩ := hx 0 (x, n, s) rfl
  simp only [Nat.add_zero] at x0 x1 x2
  have HM := Lib.hid (hmk o (by omega))
  have HR := Lib.hid (ring3_pop (a := .int .i64 0) (b := .int .i64 0) (c := .string ⟨#[]⟩) hle hx)
  generalize hn : o % m = p at *
  generalize hxl : xs.length = q at *
  have hmn : ((o : Int) == ((o + (q + 1) : Nat) : Int)) = false := by simp; omega
  have c1 := hB2.cell 1
  have c2 := hB2.cell 2
  simp only [List.getElem?_toArray, List.getElem?_cons_zero, List.getElem?_cons_succ, List.length_cons, hxl] at c1 c2
  have g0 := (hG2.cell (p * 3)).trans x0
  have g1 := (hG2.cell (p * 3 + 1)).trans x1
  have g2 := (hG2.cell (p * 3 + 2)).trans x2
  have z0 := hZ2.cell 0
  have z1 := hZ2.cell 1
  have z2 := hZ2.cell 2
  simp only [List.getElem?_toArray, List.getElem?_cons_zero, List.getElem?_cons_succ] at z0 z1 z2
  unfold zeroObj at c1 c2 g0 g1 g2 z0 z1 z2 hB2 hG2 hZ1 hZ2 hF
  have HF := Lib.hid hF
  have HB2 := Lib.hid hB2
  have HG2 := Lib.hid hG2
  have HZ1 := Lib.hid hZ1
  have HZ2 := Lib.hid hZ2
  have HP := Lib.hid hpow
  have HL := Lib.hid hxl
  have HS := Lib.hid hsz
  have HE := Lib.hid (show q ≤ m ∧ p * 3 + 2 < cs.size ∧ g ≠ b from ⟨by omega, hps, hne⟩)
  have HX0 := Lib.hid x0
  have HX1 := Lib.hid x1
  have HX2 := Lib.hid x2
  clear hB hG hsz hx hB2 hG2 hZ1 hZ2 hmk hpow hxl hn x0 x1 x2 e1 hF
  go_enter Try.func25, Try.ntmps25
  go_wp2_with fail
  refine (load_any _ _ _ c2).mono ?_; rintro e w' ⟨rfl, rfl⟩
  go_wp2_with fail
  refine (load_any _ _ _ c1).mono ?_; rintro e w' ⟨rfl, rfl⟩
  go_wp2_with fail
  refine (cell_stp b g m p _ _ _ _ HB2.out (by omega) (by omega) HM.out (by assumption)).mono ?_
  rintro e w' ⟨rfl, k1, rfl⟩
  go_wp2_with fail
  have hB3 := ((HB2.out).drewN k1).alloc (.cells #[.int .i64 x, .int .i64 n, .string s] 29)
  have hG3 := ((HG2.out).drewN k1).alloc (.cells #[.int .i64 x, .int .i64 n, .string s] 29)
  have hZ3 := ((HZ1.out).drewN k1).alloc (.cells #[.int .i64 x, .int .i64 n, .string s] 29)
  have hY3 := ((HZ2.out).drewN k1).alloc (.cells #[.int .i64 x, .int .i64 n, .string s] 29)
  have hX3 := Blk.new ((((w.alloc (.cells #[.int .i64 0, .int .i64 0, .string ⟨#[]⟩] 29)).alloc (.cells #[.int .i64 0, .int .i64 0, .string ⟨#[]⟩] 29)).drewN k1)) 29 #[.int .i64 x, .int .i64 n, .string s]
  have hF3 := ((HF.out).drewN k1).alloc (.cells #[.int .i64 x, .int .i64 n, .string s] 29)
  have eS : (((w.alloc (.cells #[.int .i64 0, .int .i64 0, .string ⟨#[]⟩] 29)).alloc (.cells #[.int .i64 0, .int .i64 0, .string ⟨#[]⟩] 29)).drewN k1).heap.size = w.heap.size + 2 := by simp
  rw [eS] at hX3
  have d0 := (hG3.cell (p * 3)).trans HX0.out
  have d1 := (hG3.cell (p * 3 + 1)).trans HX1.out
  have d2 := (hG3.cell (p * 3 + 2)).trans HX2.out
  have f0 := hG3.frozen (p * 3)
  have f1 := hG3.frozen (p * 3 + 1)
  have f2 := hG3.frozen (p * 3 + 2)
  have y0 := hY3.cell 0
  have y1 := hY3.cell 1
  have y2 := hY3.cell 2
  simp only [List.getElem?_toArray, List.getElem?_cons_zero, List.getElem?_cons_succ] at y0 y1 y2
  have HB3 := Lib.hid hB3
  have HG3 := Lib.hid hG3
  have HZ3 := Lib.hid hZ3
  have HX3 := Lib.hid hX3
  have HF3 := Lib.hid hF3
  clear hB3 hG3 hZ3 hY3 hX3 hF3 eS g0 g1 g2 z0 z1 z2 c1 c2
  generalize (((w.alloc (.cells #[.int .i64 0, .int .i64 0, .string ⟨#[]⟩] 29)).alloc (.cells #[.int .i64 0, .int .i64 0, .string ⟨#[]⟩] 29)).drewN k1).alloc (.cells #[.int .i64 x, .int .i64 n, .string s] 29) = W at *
  go_region_with (go_at_call 42; refine (cell_stp b g m p _ _ _ _ ((HB3.out).drewN _) (by omega) (by omega) HM.out (by assumption)).mono ?_; rintro e w' ⟨rfl, k2, rfl⟩)
  all_goals
    go_wp2_with fail
    have hgb : g ≠ b := HE.out.2.2
    have hF4 : Fr (fun i => i = b ∨ i = g) W _ := ((((Fr.refl (fun i => i = b ∨ i = g) W).drewN (1 + k2)).setCell (p := ⟨g, p * 3, none⟩) (.inl (.inr rfl)) (.int .i64 0)).setCell (p := ⟨g, p * 3 + 1, none⟩) (.inl (.inr rfl)) (.int .i64 0)).setCell (p := ⟨g, p * 3 + 2, none⟩) (.inl (.inr rfl)) (.string ⟨#[]⟩)
    have hG4 := Blk.put3_ ((HG3.out).drewN (1 + k2)) (p * 3) (.int .i64 0) (.int .i64 0) (.string ⟨#[]⟩)
    have hB4 := Blk.far (Blk.far (Blk.far ((HB3.out).drewN (1 + k2)) (p := ⟨g, p * 3, none⟩) (Ne.symm hgb) (.int .i64 0)) (p := ⟨g, p * 3 + 1, none⟩) (Ne.symm hgb) (.int .i64 0)) (p := ⟨g, p * 3 + 2, none⟩) (Ne.symm hgb) (.string ⟨#[]⟩)
    refine (store_any _ _ _ _ (hB4.cell 2) (hB4.frozen 2)).mono ?_
    rintro e w' ⟨rfl, rfl⟩
    have hB5 := hB4.set_ 2 (.int .u64 (↑o + 1))
    have hG5 := hG4.far (p := ⟨b, 2, none⟩) hgb (.int .u64 (↑o + 1))
    have hF5 := hF4.setCell (p := ⟨b, 2, none⟩) (.inl (.inl rfl)) (.int .u64 (↑o + 1))
    have hX5 := (HX3.out).fr hF5 (show ¬ (w.heap.size + 2 = b ∨ w.heap.size + 2 = g) by omega)
    have hZ5 := (HZ3.out).fr hF5 (show ¬ (w.heap.size = b ∨ w.heap.size = g) by omega)
    clear hF4 hG4 hB4
    generalize ((((W.drewN (1 + k2)).setCell ⟨g, p * 3, none⟩ (.int .i64 0)).setCell ⟨g, p * 3 + 1, none⟩ (.int .i64 0)).setCell ⟨g, p * 3 + 2, none⟩ (.string ⟨#[]⟩)).setCell ⟨b, 2, none⟩ (.int .u64 (↑o + 1)) = V at *
    have a0 := hX5.cell 0
    have a1 := hX5.cell 1
    have a2 := hX5.cell 2
    have b0 := hZ5.cell 0
    have b1 := hZ5.cell 1
    have b2 := hZ5.cell 2
    simp only [List.getElem?_toArray, List.getElem?_cons_zero, List.getElem?_cons_succ] at a0 a1 a2 b0 b1 b2
    have n0 := hZ5.frozen 0
    have n1 := hZ5.frozen 1
    have n2 := hZ5.frozen 2
    have hF6 := (HF3.out).trans hF5
    have hF7 := ((hF6.setCell (p := ⟨w.heap.size, 0, none⟩) (.inr (Nat.le_refl _)) (.int .i64 x)).setCell (p := ⟨w.heap.size, 1, none⟩) (.inr (Nat.le_refl _)) (.int .i64 n)).setCell (p := ⟨w.heap.size, 2, none⟩) (.inr (Nat.le_refl _)) (.string s)
    have hZ7 := ((hZ5.set_ 0 (.int .i64 x)).set_ 1 (.int .i64 n)).set_ 2 (.string s)
    have r0 := hZ7.cell 0
    have r1 := hZ7.cell 1
    have r2 := hZ7.cell 2
    simp only [List.setIfInBounds_toArray, List.set_cons_succ, List.set_cons_zero, List.getElem?_toArray, List.getElem?_cons_zero, List.getElem?_cons_succ] at r0 r1 r2
    have hB7 := Blk.far (Blk.far (Blk.far hB5 (p := ⟨w.heap.size, 0, none⟩) (show b ≠ w.heap.size by omega) (.int .i64 x)) (p := ⟨w.heap.size, 1, none⟩) (show b ≠ w.heap.size by omega) (.int .i64 n)) (p := ⟨w.heap.size, 2, none⟩) (show b ≠ w.heap.size by omega) (.string s)
    have hG7 := Blk.far (Blk.far (Blk.far hG5 (p := ⟨w.heap.size, 0, none⟩) (show g ≠ w.heap.size by omega) (.int .i64 x)) (p := ⟨w.heap.size, 1, none⟩) (show g ≠ w.heap.size by omega) (.int .i64 n)) (p := ⟨w.heap.size, 2, none⟩) (show g ≠ w.heap.size by omega) (.string s)
    have HF7 := Lib.hid hF7
    have HB7 := Lib.hid hB7
    have HG7 := Lib.hid hG7
    clear hF5 hF6 hF7 hB5 hG5 hX5 hZ5 hZ7 hB7 hG7 d0 d1 d2 f0 f1 f2 y0 y1 y2
    go_wp2_with fail
    refine bodyPost_ret (v := .tuple #[.agg #[.int .i64 x, .int .i64 n, .string s], .bool true]) (by simp [results, Try.results25, go_sem, r0, r1, r2]) rfl ⟨rfl, ⟨HP.out, HE.out.2.2, by rw [HL.out]; exact HE.out.1, _, ?_, HG7.out, by rw [put3_size, HS.out], HR.out⟩, HF7.out⟩
    have := HB7.out
    have h9 : (o : Int) + (q + 1) = o + 1 + q := by omega
    simpa [HL.out, h9] using this

set_option maxHeartbeats 400000 in
theorem len_stp (b g m o : Nat) (xs : List Stp) (w : World) (hR : RingS w b g m o xs) (ho : o + xs.length < 4000000000) :
    Calls Try.prog 26 #[.pointer (some ⟨b, 0, none⟩)] w fun e w' => e = .returned (.int .i64 (xs.length : Int)) ∧ ∃ k, w' = w.drewN k := by
  obtain ⟨_, _, hle, cs, hB, hG, hsz, hx⟩ := hR
  have c1 := hB.cell 1
  have c2 := hB.cell 2
  simp only [List.getElem?_toArray, List.getElem?_cons_zero, List.getElem?_cons_succ] at c1 c2
  clear hB hG hsz hx
  generalize xs.length = n at *
  go_enter Try.func26, Try.ntmps26
  go_wp2_with fail
  go_quiet ((go_at_call 39; (first | exact Calls.quiet_of_same (load_q _ _ _ c1) | exact Calls.quiet_of_same (load_q _ _ _ c2))))
  go_wp2_with fail
  go_ret
  have h9 : (o : Int) + n - o = n := by omega
  exact ⟨by simp [h9], _, rfl⟩

set_option maxHeartbeats 400000 in
theorem room_stp (b g m o : Nat) (xs : List Stp) (w : World) (hR : RingS w b g m o xs) (ho : o + xs.length < 4000000000) :
    Calls Try.prog 23 #[.pointer (some ⟨b, 0, none⟩)] w fun e w' => e = .returned (.int .i64 ((m : Int) - xs.length)) ∧ ∃ k, w' = w.drewN k := by
  obtain ⟨h20, h2, hne, hle, hmk⟩ := hR.open_
  have HR := Lib.hid hR
  obtain ⟨_, _, _, cs, hB, hG, hsz, hx⟩ := hR
  have c0 := hB.cell 0
  simp only [List.getElem?_toArray, List.getElem?_cons_zero] at c0
  clear hB hG hsz hx hmk
  go_enter Try.func23, Try.ntmps23
  go_wp2_with fail
  go_quiet ((go_at_call 26; exact Calls.quiet_of (len_stp b g m o xs _ HR.out ho)))
  go_wp2_with fail
  go_ret
  exact ⟨rfl, _, rfl⟩

theorem info_stp : (Try.prog.info? 29).map (fun i => (i.zero, i.size, i.bytes)) = some (some (.agg #[.int .i64 0, .int .i64 0, .string ⟨#[]⟩]), 3, 32) := by kernel_rfl

set_option maxHeartbeats 400000 in
theorem new_stp (k : Nat) (hk : k ≤ 16) (w : World) :
    Calls Try.prog 22 #[.int .i64 k] w fun e w' => ∃ b g, e = .returned (.pointer (some ⟨b, 0, none⟩)) ∧ RingS w' b g (2 ^ k) 0 [] ∧ w.heap.size ≤ b ∧ w.heap.size ≤ g ∧ Below w.heap.size w w' := by
  obtain ⟨i0, hi, hz0, hz1, hz2⟩ := info_parts info_stp
  have h1 : 1 ≤ 2 ^ k := Nat.one_le_two_pow
  have h2 : 2 ^ k ≤ 65536 := Nat.pow_le_pow_right (n := 2) (j := 16) (by omega) hk
  have hw := wrap_pow hk
  have HK := Lib.hid (show ∃ j, j ≤ 16 ∧ 2 ^ k = 2 ^ j from ⟨k, hk, rfl⟩)
  generalize hm : 2 ^ k = m at *
  have hmk := fun W => run_make_rowN (P := Try.prog) 22 29 i0 _ Try.underlying22 hi hz0 .i64 .i64 m m (Nat.le_refl _) (by rw [hz2]; omega) (by omega) W
  rw [hz1] at hmk
  clear hm hz0 hz1 hz2 hi
  go_enter Try.func22, Try.ntmps22
  go_wp2
  go_ret
  exact ⟨w.heap.size + 1, w.heap.size, rfl, ⟨HK.out, by omega, by simp, _, by simpa using Blk.new (w.alloc _) 72 _, (Blk.new w 29 _).alloc _, size_madeCells _ _, fun j x hj => by simp at hj⟩, by omega, by omega,
    ((Below.refl _ _).alloc (Nat.le_refl _) _).alloc (by simp) _⟩
end Go.Proofs.Yteggdpkjbbjcdaa
