/- slices.SortFunc at timers, by their numbers. -/
import Derived.Test.YtgmeebpgncenmaaWh
import Derived.Shelf.SlSortCmp.NoneTotal
import Derived.Shelf.SlicesG.Cmp
import Derived.Shelf.Lay
import Derived.Shelf.SlGeneric
import Derived.Ground.SlsfProg
import Derived.Ground.SlgcProg
namespace Go.Proofs.Ytgmeebpgncenmaa
open Go.Proofs Go.Shelf Go.RowKit Go.Lib Go.Sort
shelf_lay_g SlLaysF0.n6 Slsf 6 at Try 27 as Try.sortTm
shelf_lay_g SlLaysC2.n5 Slgc 5 at Try 29 as Try.cmpInt

instance : Inhabited Tm := ⟨⟨0, 0, 0⟩⟩
/-- What the program's closure says of two. -/
def cfN (x y : Tm) : Int := Lib.compareInt (x.num : Int) (y.num : Int)

theorem ltN (x y : Tm) : ltOf cfN x y = decide (x.num < y.num) := by
  unfold ltOf cfN Lib.compareInt
  by_cases h1 : x.num < y.num
  · simp [h1]
  · by_cases h2 : y.num < x.num <;> simp [h1, h2]
theorem swoN : SWO (ltOf cfN) where
  irrefl x := by rw [ltN]; simp
  trans x y z h1 h2 := by rw [ltN] at *; simp at *; omega
  ntrans x y z h1 h2 := by rw [ltN] at *; simp at *; omega

set_option maxHeartbeats 1000000 in
theorem closure28 (x y : Tm) (W : World) : Calls Try.prog 28 #[.agg #[.int .i64 x.id, .int .i64 (x.due : Int), .int .i64 (x.num : Int)], .agg #[.int .i64 y.id, .int .i64 (y.due : Int), .int .i64 (y.num : Int)]] W fun e w' => e = .returned (.int .i64 (cfN x y)) ∧ ∃ q os', w' = grow (W.drewN q) os' := by
  have hcon := fun W' => AnyG.cmp_Compare_int Try.cmpInt (x.num : Int) (y.num : Int) W'
  change ∀ W', Calls Try.prog 29 _ _ _ at hcon
  unfold cfN
  generalize Lib.compareInt (x.num : Int) (y.num : Int) = r at hcon ⊢
  go_enter Try.func28, Try.ntmps28
  go_wp2_with (go_at_call 29; refine (hcon _).mono ?_; rintro e w' ⟨rfl, rfl⟩)
  go_ret
  exact ⟨rfl, 0, _, by rw [alloc_eq_grow, alloc_eq_grow, grow_grow]; rfl⟩
theorem tcs_at : ∀ (d : List Tm) (j : Nat), j < d.length * 3 → (tcs d)[j]? = some ((Tm.cs (d[j / 3]!))[j % 3]!)
  | [], j, h => by simp at h
  | x :: r, j, h => by
    have e : tcs (x :: r) = x.cs ++ tcs r := rfl
    have hl : x.cs.length = 3 := rfl
    by_cases h3 : j < 3
    · rw [e, List.getElem?_append_left (by omega), show j / 3 = 0 by omega, show j % 3 = j by omega]
      have : j = 0 ∨ j = 1 ∨ j = 2 := by omega
      rcases this with rfl | rfl | rfl <;> rfl
    · have ih := tcs_at r (j - 3) (by simp at h; omega)
      have e1 : j / 3 = (j - 3) / 3 + 1 := by omega
      have e2 : (j - 3) % 3 = j % 3 := by omega
      rw [e, List.getElem?_append_right (by omega), hl, ih, e2, e1]
      simp
theorem cs_k (j : Nat) (t : Tm) (h : j < 3) : t.cs[j]? = some (t.cs[j]!) := by
  have : j = 0 ∨ j = 1 ∨ j = 2 := by omega
  rcases this with rfl | rfl | rfl <;> rfl
theorem holds_own {w : World} {g n c : Nat} {d : List Tm} (ho : Own w 55 3 (some ⟨g, 0, none⟩) n c (tcs d)) (hn : d.length = n) : HoldsK Tm.cs 3 w g 0 d.toArray := by
  intro j hj
  have hj' : j < d.length * 3 := by simpa using hj
  refine ⟨?_, by rw [Nat.zero_add]; exact ho.cell_none j⟩
  rw [Nat.zero_add, ho.cell j (by omega), tcs_at d j hj', get_flatK _ _ _ _ (by simpa using hj')]
  simp
theorem sorted_fr (w : World) (g n : Nat) (d' : Array Tm) (os : Array Obj) : Fr (fun i => i = g) w (sortWorldK Tm.cs 3 w g 0 n d' os) := by
  refine ⟨rfl, rfl, rfl, ?_, fun i hi hne => ?_⟩
  · simp [sortWorldK, grow, putRowK, putRow, mapBlock, Sort.ahead]
  · simp only [sortWorldK, grow, putRowK, putRow, mapBlock, Sort.ahead]
    rw [Array.getElem?_append_left (by simpa using hi), Array.getElem?_modify, if_neg (fun e => hne e.symm)]
theorem sorted_own {w : World} {g n c m : Nat} {d : List Tm} (ho : Own w 55 3 (some ⟨g, 0, none⟩) n c (tcs d)) (d' : Array Tm) (hd : d'.size = n) (os : Array Obj) :
    Own (sortWorldK Tm.cs 3 w g 0 m d' os) 55 3 (some ⟨g, 0, none⟩) n c (tcs d'.toList) := by
  have hlt := ho.lt rfl
  refine ⟨by rw [tcs_length]; simp [hd], .inr ?_⟩
  rcases ho.2 with ⟨h, _⟩ | ⟨g', cur, hv, hg, hnc, hcm, hcs, ht⟩
  · cases h
  · injection hv with hv
    injection hv with hv
    subst hv
    refine ⟨g, putCells id 0 (flatK Tm.cs 3 d') cur, rfl, ?_, hnc, hcm, by simpa [putCells] using hcs, ?_⟩
    · simp only [sortWorldK, grow, putRowK, putRow, mapBlock, Sort.ahead]
      rw [Array.getElem?_append_left (by simpa using hlt), Array.getElem?_modify, if_pos rfl, hg]
      rfl
    · apply List.ext_getElem?
      intro j
      have hnc3 : n * 3 ≤ c * 3 := Nat.mul_le_mul_right 3 hnc
      by_cases hj : j < n * 3
      · rw [List.getElem?_take, if_pos hj, tcs_at _ _ (by simpa [hd] using hj)]
        rw [Array.getElem?_toList]
        simp only [putCells, Array.getElem?_mapIdx]
        rw [Array.getElem?_eq_getElem (by omega)]
        simp only [Option.map_some, Nat.zero_le, true_and, Nat.zero_add, size_flatK, hd, hj, if_true, id]
        rw [Nat.sub_zero, get_flatK _ _ _ _ (by omega)]
        have hj3 : j / 3 < d'.size := by omega
        simp [hj3]
      · rw [List.getElem?_take, if_neg hj, List.getElem?_eq_none (by rw [tcs_length]; simp [hd]; omega)]

set_option maxHeartbeats 1000000 in
/-- The sort of timers by their numbers. -/
theorem sort_any {w : World} {g c : Nat} {d : List Tm} (ho : Own w 55 3 (some ⟨g, 0, none⟩) d.length c (tcs d)) (hd : d.length < 4611686018427387904) :
    Calls Try.prog 27 #[.slice (some ⟨g, 0, none⟩) d.length c, .func (.func 28) #[] #[]] w fun e w' => e = .returned (.tuple #[]) ∧ ∃ d' : List Tm, d'.Perm d ∧ d'.Pairwise (fun x y => x.num ≤ y.num) ∧ Own w' 55 3 (some ⟨g, 0, none⟩) d.length c (tcs d') ∧ Fr (fun i => i = g) w w' := by
  have eg : ∀ args w, (callFunc 28 args).run Try.prog w = .ok (.enter 28 args) w := enters_of Try.func28 (by kernel_rfl) rfl
  have hcmp : CmpLays Try.prog 28 #[] Tm.cs 3 cfN g 0 d.toArray.size w := fun _ _ _ _ x y => closure28 x y _
  have hcon := AnyQ.slices_SortFunc Try.sortTm 3 Try.isAgg55 Try.sizeOf55 Tm.cs (fun _ => rfl) (fun x v hv => by simp [Tm.cs] at hv; rcases hv with rfl | rfl | rfl <;> rfl) cfN swoN 28 #[] g 0 c d.toArray w eg hcmp (holds_own ho rfl) (ho.lt rfl) (by simpa using hd)
  change Calls Try.prog 27 _ _ _ at hcon
  simp only [List.size_toArray] at hcon
  refine hcon.mono ?_
  rintro e w' ⟨rfl, d', n, os, hp, hs, rfl⟩
  have hsz : d'.size = d.length := by simpa using hp.1
  refine ⟨rfl, d'.toList, ?_, ?_, sorted_own ho d' hsz os, sorted_fr w g n d' os⟩
  · have h := hp.2.2
    have e1 : (d'.extract 0 d.length).toList = d'.toList := by rw [← hsz]; simp
    have e2 : (d.toArray.extract 0 d.length).toList = d := by simp
    rw [e1, e2] at h
    exact h
  · rw [List.pairwise_iff_getElem]
    intro i j hi hj hij
    have h := hs i j (Nat.zero_le _) hij (by simpa [hsz] using hj)
    rw [ltN] at h
    have hi' : i < d'.size := by simpa using hi
    have hj' : j < d'.size := by simpa using hj
    rw [getElem!_pos d' i hi', getElem!_pos d' j hj'] at h
    simp only [decide_eq_false_iff_not, Nat.not_lt] at h
    simpa using h
/-- The same at no element too; the sorted list is any that holds the same and rises. -/
def Sorted1 (w : World) (D : Option Addr) (c : Nat) (d : List Tm) (e : Ending) (w' : World) : Prop :=
  e = .returned (.tuple #[]) ∧ ∃ d' : List Tm, d'.Perm d ∧ d'.Pairwise (fun x y => x.num ≤ y.num) ∧ Own w' 55 3 D d.length c (tcs d') ∧ Fr (fun i => D = some ⟨i, 0, none⟩) w w'
theorem sort_all {w : World} {D : Option Addr} {c : Nat} {d : List Tm} (ho : Own w 55 3 D d.length c (tcs d)) (hd : d.length < 4611686018427387904) :
    Calls Try.prog 27 #[.slice D d.length c, .func (.func 28) #[] #[]] w (Sorted1 w D c d) := by
  rcases ho.2 with ⟨rfl, h0, rfl⟩ | ⟨g, cur, rfl, _⟩
  · have hS := AnyF.slices_SortFunc_none (P := Try.prog) Try.sortTm none 0 (.func (.func 28) #[] #[]) w
    change Calls Try.prog 27 _ _ _ at hS
    rw [h0]
    refine hS.mono ?_
    rintro e w' ⟨rfl, rfl⟩
    have hnil : d = [] := List.length_eq_zero_iff.1 h0
    subst hnil
    exact ⟨rfl, [], List.Perm.refl _, List.Pairwise.nil, ho, Fr.refl _ _⟩
  · refine (sort_any ho hd).mono ?_
    rintro e w' ⟨rfl, d', h1, h2, h3, h4⟩
    exact ⟨rfl, d', h1, h2, h3, h4.mono fun k _ hk => by rw [hk]⟩
end Go.Proofs.Ytgmeebpgncenmaa
