/- slices.DeleteFunc at timers: whoever is the timer that was captured goes. -/
import Derived.Test.YtgmeebpgncenmaaTik0
import Derived.Laws.StructEq
import Derived.Laws.IdiomCopy
namespace Go.Proofs.Ytgmeebpgncenmaa
open Go.RowKit

section
variable {w w' : World} {e : TypeId} {size n c : Nat} {A : Option Addr} {xs : List Value} {S : Nat → Prop} {g : Nat}
theorem Own.shorter (h : Own w e size (some ⟨g, 0, none⟩) n c xs) {i : Nat} (hi : i ≤ n) : Own w e size (some ⟨g, 0, none⟩) i c (xs.take (i * size)) := by
  obtain ⟨hl, h⟩ := h
  have hm : i * size ≤ n * size := Nat.mul_le_mul_right _ hi
  refine ⟨by rw [List.length_take]; omega, .inr ?_⟩
  rcases h with ⟨h, _⟩ | ⟨g', cur, hv, hg, hnc, hcm, hcs, ht⟩
  · cases h
  · exact ⟨g', cur, hv, hg, by omega, hcm, hcs, by rw [← ht, List.take_take, Nat.min_eq_left hm]⟩
theorem Own.setCells (vs : List Value) : ∀ {w : World} (o : Nat), Own w e size (some ⟨g, 0, none⟩) n c xs → n * size ≤ o → Own (w.setCells g o vs) e size (some ⟨g, 0, none⟩) n c xs := by
  induction vs with
  | nil => intro w o h _; exact h
  | cons v r ih =>
    intro w o h ho
    refine ih (o + 1) ?_ (by omega)
    have := h.set_ o v
    rwa [List.set_eq_of_length_le (by rw [h.1]; exact ho)] at this
theorem Fr.setCells (vs : List Value) : ∀ {a w : World} (o : Nat), Fr S a w → S g → Fr S a (w.setCells g o vs) := by
  induction vs with
  | nil => intro a w o h _; exact h
  | cons v r ih => intro a w o h hs; exact ih (o + 1) (h.setCell (.inl hs) v) hs
end

theorem eqTm (t u : Tm) (w : World) : (binOp .eql 55 (.agg #[.int .i64 t.id, .int .i64 (t.due : Int), .int .i64 (t.num : Int)]) (.agg #[.int .i64 u.id, .int .i64 (u.due : Int), .int .i64 (u.num : Int)])).run Try.prog w = .ok (.bool (decide (t = u))) w := by
  have u3 := Try.underlying3
  have a3 := Try.isAgg3
  have z3 := Try.sizeOf3
  have hS : Try.prog.underlying 55 = some (.struct (Try.prog.fieldsOf 55)) := by kernel_rfl
  have hp : Try.prog.stoodInHeld 55 = false := by kernel_rfl
  rw [run_eql_struct, show (10000 : Nat) = 9999 + 1 from rfl, run_equalIn_agg w 9999 55 _ _ hS hp]
  simp only [Program.fieldsOf, Try.underlying55]
  go_simp
  obtain ⟨a, b, c⟩ := t
  obtain ⟨a', b', c'⟩ := u
  by_cases h1 : a = a' <;> by_cases h2 : b = b' <;> by_cases h3 : c = c' <;> simp [h1, h2, h3] <;> omega

set_option maxHeartbeats 1000000 in
theorem closure36 (u t : Tm) (gt : Nat) (W : World) (hB : Blk W gt 55 t.cs.toArray) : Calls Try.prog 36 #[.agg #[.int .i64 u.id, .int .i64 (u.due : Int), .int .i64 (u.num : Int)], .pointer (some ⟨gt, 0, none⟩)] W fun e w' => e = .returned (.bool (decide (u = t))) ∧ Fr (fun _ => False) W w' := by
  have heq := eqTm u t
  have k0 := hB.cell 0
  have k1 := hB.cell 1
  have k2 := hB.cell 2
  simp only [Tm.cs, List.getElem?_toArray, List.getElem?_cons_zero, List.getElem?_cons_succ] at k0 k1 k2
  have hlt := hB.lt
  clear hB
  generalize decide (u = t) = r at heq ⊢
  go_enter Try.func36, Try.ntmps36
  go_wp2_with fail
  go_ret
  exact ⟨rfl, by repeat first | exact (Fr.refl _ _).alloc _ | refine Fr.drewN ?_ _ | refine Fr.alloc ?_ _⟩

set_option maxHeartbeats 1600000 in
/-- Where the captured one stands first; it stands nowhere ahead of p; p = len: nowhere. -/
theorem index_any {w : World} {A : Option Addr} {n c gt : Nat} {l : List Tm} (t : Tm) (ho : Own w 55 3 A n c (tcs l)) (hn : l.length = n) (hB : Blk w gt 55 t.cs.toArray) (p : Nat) (hp : p ≤ n) (hl : n < 1152921504606846976)
    (hbefore : ∀ j u, j < p → l[j]? = some u → u ≠ t) (hat : p < n → l[p]? = some t) (r : Int) (hr : r = if p < n then (p : Int) else -1) :
    Calls Try.prog 47 #[.slice A n c, .func (.func 36) #[] #[.pointer (some ⟨gt, 0, none⟩)]] w fun e w' => e = .returned (.int .i64 r) ∧ Fr (fun _ => False) w w' := by
  have HO := Lib.hid ho
  have HB := Lib.hid hB
  have HBE := Lib.hid hbefore
  have HAT := Lib.hid hat
  have HN := Lib.hid hn
  have HR := Lib.hid hr
  clear ho hB hbefore hat hn hr
  go_enter Try.func47, Try.ntmps47
  go_wp2_with fail
  go_loopw [8] (fun i wr => ∃ j : Nat, j ≤ p ∧ i = .int .i64 (j : Int) ∧ Fr (fun _ => False) w wr) (fun i _ => p + 1 - (intOf i).toNat)
  case atStart => exact ⟨0, Nat.zero_le _, rfl, Fr.refl _ _⟩
  case round =>
    obtain ⟨j, hj, rfl, hF⟩ := hrel
    by_cases hjn : j < n
    · have ho := HO.out.fr hF fun _ _ => id
      have hb := HB.out.fr hF id
      obtain ⟨g, rfl⟩ := ho.some_ (by omega)
      obtain ⟨u, hu⟩ : ∃ u, l[j]? = some u := ⟨_, List.getElem?_eq_getElem (by have := HN.out; omega)⟩
      obtain ⟨tc0, tc1, tc2⟩ := tcs_cell l j u hu
      have g0 := ho.cell (j * 3) (by omega)
      have g1 := ho.cell (j * 3 + 1) (by omega)
      have g2 := ho.cell (j * 3 + 2) (by omega)
      rw [tc0] at g0
      rw [tc1] at g1
      rw [tc2] at g2
      have HF := Lib.hid hF
      have HU := Lib.hid hu
      have HB2 := Lib.hid hb
      have hne : j < p → decide (u = t) = false := fun h => decide_eq_false (HBE.out j u h hu)
      clear hF hu hb tc0 tc1 tc2 ho
      by_cases hjp : j < p
      · have hd := Lib.hid (hne hjp)
        clear hne
        go_wp2_with fail
        refine (closure36 u t gt _ HB2.out).mono ?_
        rintro e w2 ⟨rfl, f2⟩
        rw [hd.out]
        have HF2 := Lib.hid (HF.out.trans f2)
        clear f2 g0 g1 g2
        go_wp2_with fail
        go_roundw
        case rel => exact ⟨j + 1, by omega, by go_num, HF2.out⟩
        case measure => simp [intOf]; omega
      · obtain rfl : j = p := by omega
        have hut : u = t := by have h1 := HAT.out hjn; have h2 := HU.out; rw [h1] at h2; exact (Option.some.inj h2).symm
        have HD := Lib.hid (show decide (u = t) = true by rw [hut]; simp)
        have HRR := Lib.hid (show r = (j : Int) by rw [HR.out, if_pos hjn])
        clear hne hut
        go_wp2_with fail
        refine (closure36 u t gt _ HB2.out).mono ?_
        rintro e w2 ⟨rfl, f2⟩
        rw [HD.out]
        have HF2 := Lib.hid (HF.out.trans f2)
        clear f2 g0 g1 g2
        go_wp2_with fail
        go_ret
        exact ⟨by rw [HRR.out]; rfl, HF2.out⟩
    · have HRR := Lib.hid (show r = -1 by rw [HR.out, if_neg (by omega)])
      have HF := Lib.hid hF
      clear hF
      go_wp2_with fail
      go_ret
      exact ⟨by rw [HRR.out]; rfl, HF.out⟩

def noT (t : Tm) (l : List Tm) : List Tm := l.filter fun u => !decide (u = t)
theorem noT_le (t : Tm) (l : List Tm) : (noT t l).length ≤ l.length := List.length_filter_le _ _
theorem noT_snoc (t u : Tm) (l : List Tm) : noT t (l ++ [u]) = if u = t then noT t l else noT t l ++ [u] := by
  unfold noT
  rw [List.filter_append]
  by_cases h : u = t <;> simp [h]
theorem take_snoc_ {l : List Tm} {j : Nat} {u : Tm} (h : l[j]? = some u) : l.take (j + 1) = l.take j ++ [u] := by
  obtain ⟨hj, e⟩ := List.getElem?_eq_some_iff.1 h
  rw [List.take_succ_eq_append_getElem hj, e]
theorem set_at (F r : List Tm) (x u : Tm) : (F ++ x :: r).set F.length u = F ++ u :: r := by
  rw [List.set_append_right _ _ (Nat.le_refl _), Nat.sub_self]; rfl
theorem tcs_set : ∀ (l : List Tm) (i : Nat) (u : Tm), i < l.length → (((tcs l).set (i * 3) (.int .i64 u.id)).set (i * 3 + 1) (.int .i64 (u.due : Int))).set (i * 3 + 2) (.int .i64 (u.num : Int)) = tcs (l.set i u)
  | [], i, u, h => by simp at h
  | x :: r, 0, u, h => by simp [tcs, Tm.cs]
  | x :: r, i + 1, u, h => by
    have ih := tcs_set r i u (by simpa using h)
    have e : tcs (x :: r) = .int .i64 x.id :: .int .i64 (x.due : Int) :: .int .i64 (x.num : Int) :: tcs r := rfl
    have e0 : (i + 1) * 3 = i * 3 + 1 + 1 + 1 := by omega
    rw [e, e0]
    show _ :: _ :: _ :: _ = tcs (x :: r.set i u)
    rw [ih]
    rfl
theorem run_clear_own {w : World} {g n c : Nat} {xs : List Value} (ho : Own w 55 3 (some ⟨g, 0, none⟩) n c xs) {i : Nat} (hi : i < n) (ty : TypeId) :
    ∃ w', (Builtin.clear_ #[47] ty #[.slice (some ⟨g, i * 3, none⟩) (n - i) (c - i)]).run Try.prog w = .ok (.tuple #[]) w' ∧ Own w' 55 3 (some ⟨g, 0, none⟩) i c (xs.take (i * 3)) ∧ Fr (fun k => k = g) w w' := by
  obtain ⟨m, hm⟩ : ∃ m, n - i = m + 1 := ⟨n - i - 1, by omega⟩
  have hlen : (Builtin.zeroCells #[Value.int .i64 0, Value.int .i64 0, Value.int .i64 0] (m + 1)).toList.length = (m + 1) * 3 := by simp [Builtin.zeroCells]
  have hst := run_storeCells_cells (P := Try.prog) g (i * 3) (Builtin.zeroCells #[Value.int .i64 0, Value.int .i64 0, Value.int .i64 0] (m + 1)).toList 0 w
    (fun j hj => by
      rw [Nat.add_zero, ho.cell (i * 3 + j) (by omega), List.getElem?_eq_getElem (by have := ho.1; omega)]; rfl)
    (fun j hj => by rw [Nat.add_zero]; exact ho.cell_none _)
    (fun v hv => by
      simp only [Builtin.zeroCells, Array.toList_map, List.mem_map] at hv
      obtain ⟨k, _, rfl⟩ := hv
      have h3 : k % 3 < 3 := Nat.mod_lt _ (by omega)
      show Value.oneCell' (#[Value.int .i64 0, Value.int .i64 0, Value.int .i64 0][k % 3]!) = true
      generalize k % 3 = q at h3 ⊢
      have : q = 0 ∨ q = 1 ∨ q = 2 := by omega
      rcases this with rfl | rfl | rfl <;> rfl)
  simp only [Nat.add_zero] at hst
  refine ⟨_, ?_, (ho.shorter (Nat.le_of_lt hi)).setCells (Builtin.zeroCells #[Value.int .i64 0, Value.int .i64 0, Value.int .i64 0] (m + 1)).toList _ (Nat.le_refl _), Fr.setCells _ _ (Fr.refl _ _) rfl⟩
  · rw [hm]
    simp [Builtin.clear_, run_underlying Try.underlying47, Try.zeroValue55, hst, Value.cells]

def Deld (w : World) (A : Option Addr) (c : Nat) (t : Tm) (l : List Tm) (e : Ending) (w' : World) : Prop :=
  e = .returned (.slice A (noT t l).length c) ∧ Own w' 55 3 A (noT t l).length c (tcs (noT t l)) ∧ Fr (fun i => A = some ⟨i, 0, none⟩) w w'

theorem noT_all {t : Tm} {l : List Tm} (h : t ∉ l) : noT t l = l := List.filter_eq_self.2 fun u hu => by
  have : u ≠ t := fun e => h (e ▸ hu)
  simp [this]

set_option maxHeartbeats 1600000 in
theorem delete_none {w : World} {A : Option Addr} {c gt : Nat} {l : List Tm} (t : Tm) (ho : Own w 55 3 A l.length c (tcs l)) (hB : Blk w gt 55 t.cs.toArray) (hl : l.length < 1152921504606846976) (hnt : t ∉ l) :
    Calls Try.prog 35 #[.slice A l.length c, .func (.func 36) #[] #[.pointer (some ⟨gt, 0, none⟩)]] w (Deld w A c t l) := by
  have hidx := index_any t ho rfl hB l.length (Nat.le_refl _) hl (fun j u _ hu e => hnt (e ▸ List.mem_of_getElem? hu)) (fun h => absurd h (Nat.lt_irrefl _)) (-1) (by rw [if_neg (Nat.lt_irrefl _)])
  have HI := Lib.hid hidx
  have HO := Lib.hid ho
  have HNT := Lib.hid hnt
  clear hidx ho hB hnt
  go_enter Try.func35, Try.ntmps35
  go_wp2_with fail
  refine HI.out.mono ?_
  rintro e w2 ⟨rfl, f2⟩
  have HF := Lib.hid f2
  clear f2
  go_wp2_with fail
  go_ret
  unfold Deld
  rw [noT_all HNT.out]
  exact ⟨rfl, HO.out.fr HF.out fun _ _ => id, HF.out.mono fun _ _ h => h.elim⟩

set_option maxHeartbeats 3200000 in
theorem delete_some {w : World} {g c gt : Nat} {l : List Tm} (t : Tm) (ho : Own w 55 3 (some ⟨g, 0, none⟩) l.length c (tcs l)) (hB : Blk w gt 55 t.cs.toArray) (hgt : gt ≠ g) (hl : l.length < 1152921504606846976) (p : Nat) (hp : p < l.length) (hat : l[p]? = some t)
    (hbefore : ∀ j u, j < p → l[j]? = some u → u ≠ t) :
    Calls Try.prog 35 #[.slice (some ⟨g, 0, none⟩) l.length c, .func (.func 36) #[] #[.pointer (some ⟨gt, 0, none⟩)]] w (Deld w (some ⟨g, 0, none⟩) c t l) := by
  have hidx := index_any t ho rfl hB p (by omega) hl hbefore (fun _ => hat) (p : Int) (by rw [if_pos hp])
  have hstart : noT t (l.take (p + 1)) = l.take p := by
    rw [take_snoc_ hat, noT_snoc, if_pos rfl]
    refine noT_all fun hm => ?_
    obtain ⟨j, hj⟩ := List.getElem?_of_mem hm
    have hjp : j < p := by have := (List.getElem?_eq_some_iff.1 hj).1; rw [List.length_take] at this; omega
    rw [List.getElem?_take, if_pos hjp] at hj
    exact hbefore j t hjp hj rfl
  have HS := Lib.hid hstart
  have HI := Lib.hid hidx
  have HO := Lib.hid ho
  have HB := Lib.hid hB
  have hpt : ((p : Int) == -1) = false := by simp
  clear hidx ho hB hat hbefore hstart
  obtain ⟨n, hn⟩ : ∃ n, n = l.length := ⟨_, rfl⟩
  have HN := Lib.hid hn
  rw [← hn] at hp hl HO HI ⊢
  clear hn
  go_enter Try.func35, Try.ntmps35
  go_wp2_with fail
  refine HI.out.mono ?_
  rintro e w2 ⟨rfl, f2⟩
  have HF := Lib.hid (show Fr (fun i => i = g) w w2 from f2.mono fun _ _ h => h.elim)
  have HO2 := Lib.hid (HO.out.fr f2 fun _ _ => id)
  clear f2
  go_wp2_with fail
  go_loopw [5, 6] (fun vi vj wr => ∃ (i j : Nat) (F : List Tm), F = noT t (l.take j) ∧ F.length = i ∧ i < j ∧ j ≤ n ∧ vi = .int .i64 (i : Int) ∧ vj = .int .i64 (j : Int) ∧ Own wr 55 3 (some ⟨g, 0, none⟩) n c (tcs (F ++ l.drop i)) ∧ Fr (fun i => i = g) w wr) (fun _ vj _ => n - (intOf vj).toNat)
  case atStart =>
    have hlen : (l.take p).length = p := by rw [List.length_take]; have := HN.out; omega
    exact ⟨p, p + 1, l.take p, HS.out.symm, hlen, by omega, by omega, rfl, by go_num, by rw [List.take_append_drop]; exact HO2.out, HF.out⟩
  case round =>
    obtain ⟨i, j, F, hFd, hFl, hij, hj, rfl, rfl, ho, hf⟩ := hrel
    by_cases hjn : j < n
    · obtain ⟨u, hu⟩ : ∃ u, l[j]? = some u := ⟨_, List.getElem?_eq_getElem (by have := HN.out; omega)⟩
      have hu2 : (F ++ l.drop i)[j]? = some u := by
        rw [List.getElem?_append_right (by omega), List.getElem?_drop, hFl, show i + (j - i) = j by omega]; exact hu
      obtain ⟨tc0, tc1, tc2⟩ := tcs_cell _ j u hu2
      have g0 := ho.cell (j * 3) (by omega)
      have g1 := ho.cell (j * 3 + 1) (by omega)
      have g2 := ho.cell (j * 3 + 2) (by omega)
      rw [tc0] at g0
      rw [tc1] at g1
      rw [tc2] at g2
      obtain ⟨x, r, hx⟩ : ∃ x r, l.drop i = x :: r := ⟨_, _, List.drop_eq_getElem_cons (by have := HN.out; omega)⟩
      have hx2 : (F ++ l.drop i)[i]? = some x := by rw [hx, List.getElem?_append_right (by omega), hFl, Nat.sub_self]; rfl
      obtain ⟨xc0, xc1, xc2⟩ := tcs_cell _ i x hx2
      have x0 := ho.cell (i * 3) (by omega)
      have x1 := ho.cell (i * 3 + 1) (by omega)
      have x2 := ho.cell (i * 3 + 2) (by omega)
      rw [xc0] at x0
      rw [xc1] at x1
      rw [xc2] at x2
      have hb := HB.out.fr hf (fun e => hgt e)
      have hgl := ho.lt rfl
      have HB3 := Lib.hid hb
      have HO3 := Lib.hid ho
      have HF3 := Lib.hid hf
      have HU := Lib.hid hu
      have HFD := Lib.hid hFd
      have HFL := Lib.hid hFl
      have HX := Lib.hid hx
      clear hb ho hf hu hFd hFl tc0 tc1 tc2 xc0 xc1 xc2 hu2 hx hx2
      go_wp2_with fail
      have hD : u = t ∨ u ≠ t := Classical.em _
      have hcl := closure36 u t gt
      have f3 : Fr (fun i => i = g) w (wr.alloc (.cells #[.int .i64 u.id, .int .i64 (u.due : Int), .int .i64 (u.num : Int)] 55)) := HF3.out.alloc _
      have hBu : Blk (wr.alloc (.cells #[.int .i64 u.id, .int .i64 (u.due : Int), .int .i64 (u.num : Int)] 55)) wr.heap.size 55 #[.int .i64 u.id, .int .i64 (u.due : Int), .int .i64 (u.num : Int)] := Blk.new _ _ _
      have hO4 := HO3.out.fr (S := fun _ => False) ((Fr.refl (fun _ => False) wr).alloc (.cells #[.int .i64 u.id, .int .i64 (u.due : Int), .int .i64 (u.num : Int)] 55)) fun _ _ => id
      have hb4 := HB3.out.alloc (.cells #[.int .i64 u.id, .int .i64 (u.due : Int), .int .i64 (u.num : Int)] 55)
      have hne : wr.heap.size ≠ g := by omega
      clear g0 g1 g2 x0 x1 x2 hgl HO3 HB3 HF3
      generalize wr.alloc (.cells #[.int .i64 u.id, .int .i64 (u.due : Int), .int .i64 (u.num : Int)] 55) = w4 at *
      generalize wr.heap.size = gu at *
      refine (hcl _ hb4).mono ?_
      rintro e w5 ⟨rfl, f5⟩
      have hBu5 := hBu.fr f5 id
      have hO5 := hO4.fr f5 fun _ _ => id
      have f6 := f3.step f5 fun _ h => h.elim
      clear f5 f3 hO4 hb4 hcl hBu
      rcases hD with hD | hD
      · have HD := Lib.hid (show decide (u = t) = true from decide_eq_true hD)
        have HFD2 := Lib.hid (show F = noT t (l.take (j + 1)) by rw [take_snoc_ HU.out, noT_snoc, if_pos hD]; exact HFD.out)
        have HO6 := Lib.hid hO5
        have HF6 := Lib.hid f6
        clear hD hO5 hBu5 f6
        rw [HD.out]
        go_wp2_with fail
        go_roundw
        case rel => exact ⟨i, j + 1, F, HFD2.out, HFL.out, by omega, by omega, rfl, by go_num, HO6.out, HF6.out⟩
        case measure => simp [intOf]; omega
      · have HD := Lib.hid (show decide (u = t) = false from decide_eq_false hD)
        have HFD2 := Lib.hid (show F ++ [u] = noT t (l.take (j + 1)) by rw [take_snoc_ HU.out, noT_snoc, if_neg hD, HFD.out])
        clear hD
        rw [HD.out]
        have hx2 : (F ++ l.drop i)[i]? = some x := by rw [HX.out, List.getElem?_append_right (by have := HFL.out; omega), HFL.out, Nat.sub_self]; rfl
        obtain ⟨xc0, xc1, xc2⟩ := tcs_cell _ i x hx2
        have x0 := hO5.cell (i * 3) (by omega)
        have x1 := hO5.cell (i * 3 + 1) (by omega)
        have x2 := hO5.cell (i * 3 + 2) (by omega)
        rw [xc0] at x0
        rw [xc1] at x1
        rw [xc2] at x2
        have z0 := hO5.cell_none (i * 3)
        have z1 := hO5.cell_none (i * 3 + 1)
        have z2 := hO5.cell_none (i * 3 + 2)
        have k0 := hBu5.cell 0
        have k1 := hBu5.cell 1
        have k2 := hBu5.cell 2
        simp only [List.getElem?_toArray, List.getElem?_cons_zero, List.getElem?_cons_succ] at k0 k1 k2
        have hnew : ((F ++ l.drop i).set i u) = (F ++ [u]) ++ l.drop (i + 1) := by
          have h1 := set_at F r x u
          rw [HFL.out] at h1
          rw [HX.out, h1]
          have h2 : l.drop (i + 1) = r := by
            have h3 := congrArg List.tail HX.out
            rw [List.tail_drop] at h3
            exact h3
          rw [h2]; simp
        have hO6 := ((hO5.set_ (i * 3) (.int .i64 u.id)).set_ (i * 3 + 1) (.int .i64 (u.due : Int))).set_ (i * 3 + 2) (.int .i64 (u.num : Int))
        rw [tcs_set _ i u (by have h1 := HFL.out; rw [List.length_append, List.length_drop]; have := HN.out; omega), hnew] at hO6
        have HO6 := Lib.hid hO6
        have HF6 := Lib.hid (((f6.setCell (p := ⟨g, i * 3, none⟩) (.inl rfl) (.int .i64 u.id)).setCell (p := ⟨g, i * 3 + 1, none⟩) (.inl rfl) (.int .i64 (u.due : Int))).setCell (p := ⟨g, i * 3 + 2, none⟩) (.inl rfl) (.int .i64 (u.num : Int)))
        have HFL2 := Lib.hid (show (F ++ [u]).length = i + 1 by rw [List.length_append, HFL.out]; rfl)
        clear hO6 hnew xc0 xc1 xc2 hx2 hO5 hBu5 f6
        go_wp2_with fail
        go_roundw
        case rel => exact ⟨i + 1, j + 1, F ++ [u], HFD2.out, HFL2.out, by omega, by omega, by go_num, by go_num, HO6.out, HF6.out⟩
        case measure => simp [intOf]; omega
    · obtain rfl : j = n := by omega
      have hFn : F = noT t l := by rw [hFd, List.take_of_length_le (by have := HN.out; omega)]
      obtain ⟨w6, hrun, ho6, hf6⟩ := run_clear_own ho (i := i) (by omega) 0
      have hgoal : Own w6 55 3 (some ⟨g, 0, none⟩) i c (tcs (noT t l)) := by
        have h1 : (tcs (F ++ l.drop i)).take (i * 3) = tcs F := by
          rw [tcs_append, List.take_append_of_le_length (by rw [tcs_length, hFl]; exact Nat.le_refl _), List.take_of_length_le (by rw [tcs_length, hFl]; exact Nat.le_refl _)]
        rw [h1, hFn] at ho6
        exact ho6
      have HG := Lib.hid hgoal
      have HF6 := Lib.hid (hf.trans hf6)
      have HI6 := Lib.hid (show i = (noT t l).length by rw [← hFn, hFl])
      have hc := ho.len_le
      clear hgoal ho6 hf6 ho hf hFn hFd hFl
      go_wp2_with fail
      go_ret
      unfold Deld
      rw [← HI6.out]
      exact ⟨rfl, HG.out, HF6.out.mono fun k _ hk => by rw [hk]⟩
end Go.Proofs.Ytgmeebpgncenmaa
