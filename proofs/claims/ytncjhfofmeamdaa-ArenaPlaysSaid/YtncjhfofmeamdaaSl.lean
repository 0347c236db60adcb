/- slices.BinarySearch, Delete, Insert at rows of ints. -/
import Derived.Test.YtncjhfofmeamdaaAr
import Derived.Shelf.Lay
import Derived.Shelf.Slices.SearchI
import Derived.Shelf.Slices.Delete
import Derived.Shelf.Slices.Empties
import Derived.Shelf.Spec.SlicesInsert
import Derived.Shelf.Spec.SlicesInsertGrow
import Derived.Ground.Names2Prog
namespace Go.Proofs.Ytncjhfofmeamdaa
open Go.Proofs Go.Shelf Go.RowKit Go.Lib Go.Sort
shelf_lay Lays2.n25 Nm2 25 at Try as Try.bsI
shelf_lay Lays2.n23 Nm2 23 at Try as Try.delI
shelf_lay Lays2.n21 Nm2 21 at Try as Try.insI

def toI (l : List Nat) : List Int := l.map fun x : Nat => (x : Int)
theorem toI_len (l : List Nat) : (toI l).length = l.length := by simp [toI]
theorem toI_get (l : List Nat) (j : Nat) (hj : j < l.length) : (toI l).getD j 0 = (l[j] : Int) := by simp [toI, hj]
theorem toI_count (l : List Nat) (x : Nat) : (toI l).countP (fun y => decide (y < (x : Int))) = l.countP (fun y => decide (y < x)) := by
  unfold toI
  rw [List.countP_map]
  congr 1
  funext y
  simp
theorem toI_contains (l : List Nat) (x : Nat) : (toI l).contains (x : Int) = l.contains x := by
  unfold toI
  rw [Bool.eq_iff_iff]
  simp
  exact ⟨fun ⟨a, h1, h2⟩ => by have h3 : a = x := by omega
                               exact h3 ▸ h1, fun h => ⟨x, h, rfl⟩⟩
theorem holds_row {w : World} {g off c : Nat} {l : List Nat} (h : Row w (some ⟨g, off, none⟩) c l) : Holds (Value.int .i64) w g off (toI l).toArray := by
  intro j hj
  have hj' : j < l.length := by simpa [toI] using hj
  refine ⟨?_, h.frozen _⟩
  rw [h.cell (List.getElem?_eq_getElem hj')]
  rw [getElem!_pos _ j hj]
  simp [toI]

/-- Where x is, or would be. -/
theorem bs_any {w : World} {A : Option Addr} {c : Nat} {l : List Nat} (h : Row w A c l) (hs : l.Pairwise (· < ·)) (hl : l.length < 1000000) (x : Nat) :
    Calls Try.prog 28 #[.slice A l.length c, .int .i64 (x : Int)] w fun e w' => e = .returned (.tuple #[.int .i64 ((l.countP (fun y => decide (y < x)) : Nat) : Int), .bool (l.contains x)]) ∧ ∃ q, w' = w.drewN q := by
  by_cases h0 : l.length = 0
  · have hn : l = [] := List.length_eq_zero_iff.1 h0
    subst hn
    have hc := Any.slices_BinarySearch_int_empty Try.bsI A c (x : Int) w
    change Calls Try.prog 28 _ _ _ at hc
    refine hc.mono ?_
    rintro e w' ⟨rfl, rfl⟩
    exact ⟨rfl, 0, rfl⟩
  · obtain ⟨g, off, rfl⟩ := h.some_ (by omega)
    have hc := Any.slices_BinarySearch_int Try.bsI g off l.length c (toI l) (x : Int) w (by rw [toI_len]; exact Nat.le_refl _) (by omega) (fun j hj => by
      rw [toI_len] at hj
      rw [toI_get l j hj]
      exact h.cell (List.getElem?_eq_getElem hj)) (by
      rw [List.take_of_length_le (by rw [toI_len]; exact Nat.le_refl _)]
      unfold toI
      rw [List.pairwise_map]
      exact hs.imp fun {a b} hab => by omega)
    change Calls Try.prog 28 _ _ _ at hc
    rw [List.take_of_length_le (by rw [toI_len]; exact Nat.le_refl _), toI_count, toI_contains] at hc
    exact hc

/-- The i-th goes. -/
theorem del_any {w : World} {g off c : Nat} {l : List Nat} (h : Row w (some ⟨g, off, none⟩) c l) {i : Nat} (hi : i < l.length) :
    Calls Try.prog 29 #[.slice (some ⟨g, off, none⟩) l.length c, .int .i64 (i : Int), .int .i64 ((i : Int) + 1)] w fun e w' => e = .returned (.slice (some ⟨g, off, none⟩) (l.length - 1) c) ∧ Row w' (some ⟨g, off, none⟩) c (l.eraseIdx i) ∧ Fr (fun k => k = g) w w' := by
  obtain ⟨cur, hb, hlc, hcm, hcs, hcell⟩ := h.open_
  have hc := Any.slices_Delete_int Try.delI g off c i (i + 1) (toI l) w (holds_row h) (by rw [toI_len]; exact hlc) hcm (by omega) (by rw [toI_len]; exact hi)
  change Calls Try.prog 29 _ _ _ at hc
  rw [toI_len, show i + 1 - i = 1 by omega] at hc
  refine hc.mono ?_
  rintro e w' ⟨rfl, q, rfl⟩
  have hpos : 0 < l.length := by omega
  refine ⟨rfl, .inr ⟨g, off, putCells (Value.int .i64) off ((toI l).take i ++ (toI l).drop (i + 1) ++ List.replicate 1 0).toArray cur, rfl, ?_, ?_, hcm, by simpa [putCells] using hcs, ?_⟩, ?_⟩
  · unfold Blk at hb ⊢
    simp only [putRow, mapBlock, Sort.ahead]
    rw [Array.getElem?_modify, if_pos rfl, hb]
    rfl
  · rw [List.length_eraseIdx, if_pos hi]; omega
  · intro j x hj
    have hj2 : j < l.length - 1 := by
      have := (List.getElem?_eq_some_iff.1 hj).1
      rwa [List.length_eraseIdx, if_pos hi] at this
    have hsz : ((toI l).take i ++ (toI l).drop (i + 1) ++ List.replicate 1 0).toArray.size = l.length := by simp [toI]; omega
    simp only [putCells, Array.getElem?_mapIdx]
    rw [Array.getElem?_eq_getElem (by omega)]
    simp only [Option.map_some]
    rw [if_pos (by omega), Nat.add_sub_cancel_left]
    congr 1
    have e : (toI l).take i ++ (toI l).drop (i + 1) = toI (l.eraseIdx i) := by
      unfold toI
      rw [List.eraseIdx_eq_take_drop_succ, List.map_append, List.map_take, List.map_drop]
    rw [e]
    rw [getElem!_pos _ j (by rw [← e, hsz]; omega)]
    have hjl : j < (toI (l.eraseIdx i)).length := by rw [toI_len, List.length_eraseIdx, if_pos hi]; omega
    simp only [List.getElem_toArray]
    rw [List.getElem_append_left hjl]
    have : (toI (l.eraseIdx i))[j]? = some (x : Int) := by unfold toI; rw [List.getElem?_map, hj]; rfl
    rw [List.getElem?_eq_getElem hjl] at this
    rw [Option.some.inj this]
  · refine ⟨rfl, rfl, rfl, by simp [putRow, mapBlock, Sort.ahead], fun k _ hk => ?_⟩
    simp only [putRow, mapBlock, Sort.ahead]
    rw [Array.getElem?_modify, if_neg (fun e => hk e.symm)]

/-- x comes in ahead of the i-th. -/
def Insd (w : World) (A : Option Addr) (l : List Nat) (i x : Nat) (e : Ending) (w' : World) : Prop :=
  ∃ (g off c : Nat), e = .returned (.slice (some ⟨g, off, none⟩) (l.length + 1) c) ∧ Row w' (some ⟨g, off, none⟩) c (l.take i ++ x :: l.drop i) ∧ Fr (fun k => ∃ o, A = some ⟨k, o, none⟩) w w' ∧ ((∃ o, A = some ⟨g, o, none⟩) ∨ w.heap.size ≤ g)
theorem ins_at {l : List Nat} {i x : Nat} (hi : i ≤ l.length) (j : Nat) : (l.take i ++ x :: l.drop i)[j]? = if j < i then l[j]? else if j = i then some x else l[j - 1]? := by
  have hlt : (l.take i).length = i := by rw [List.length_take]; omega
  by_cases h1 : j < i
  · rw [if_pos h1, List.getElem?_append_left (by omega), List.getElem?_take, if_pos h1]
  · rw [if_neg h1, List.getElem?_append_right (by omega), hlt]
    by_cases h2 : j = i
    · subst h2; simp
    · rw [if_neg h2, show j - i = (j - i - 1) + 1 by omega, List.getElem?_cons_succ, List.getElem?_drop]
      congr 1; omega
theorem insd_any {w : World} {A : Option Addr} {c vb : Nat} {l : List Nat} (h : Row w A c l) (hl : l.length < 1000000) {i : Nat} (hi : i ≤ l.length) (x : Nat) (hv : Blk w vb 3 #[.int .i64 (x : Int)]) (hne : ∀ g o, A = some ⟨g, o, none⟩ → vb ≠ g) :
    Calls Try.prog 36 #[.slice A l.length c, .int .i64 (i : Int), .slice (some ⟨vb, 0, none⟩) 1 1] w (Insd w A l i x) := by
  have hvs : ∀ (j : Nat) v, [Value.int .i64 (x : Int)][j]? = some v → w.cell? ⟨vb, 0 + j, none⟩ = some v := fun j v hj => by
    rw [hv.cell, Nat.zero_add]
    simpa using hj
  have h1v : ∀ v ∈ [Value.int .i64 (x : Int)], v.oneCell' = true := fun v hv => by rw [List.mem_singleton] at hv; subst hv; rfl
  have hvl : [Value.int .i64 (x : Int)].length = 1 := rfl
  have hll := h.len_le
  have hcsA : ∀ g off, A = some ⟨g, off, none⟩ → ∀ (j : Nat) v, (ints l)[j]? = some v → w.cell? ⟨g, off + j, none⟩ = some v := by
    rintro g off rfl j v hj
    unfold ints at hj
    rw [List.getElem?_map] at hj
    cases hl2 : l[j]? with
    | none => rw [hl2] at hj; cases hj
    | some y =>
      rw [hl2] at hj
      rw [← Option.some.inj hj]
      exact h.cell hl2
  by_cases hin : i < l.length
  · obtain ⟨g, off, rfl⟩ := h.some_ (by omega)
    have hng := hne g off rfl
    by_cases hroom : l.length + 1 ≤ c
    · obtain ⟨cur, hb, hlc, hcm, hcs, hcell⟩ := h.open_
      have hc := Any2.slices_Insert_int_shift Try.insI g off l.length c i vb 0 1 1 (ints l) [.int .i64 (x : Int)] w hin (by omega) hroom hcm hng (ints_len l) rfl (hcsA g off rfl)
        (fun j hj => h.room j (by omega)) (fun j _ => h.frozen _) hvs (ints_one l) h1v 3 3 1 cur.size (by unfold Blk at hv; simp [World.shape?, hv]) (by unfold Blk at hb; simp [World.shape?, hb]) (by omega) (hv.frozen 0) (hv.frozen 1)
      change Calls Try.prog 36 _ _ _ at hc
      refine hc.mono ?_
      rintro e w' ⟨rfl, rfl⟩
      obtain ⟨cs1, b1, s1, g1⟩ := Blk.setCells ((ints l).drop i) (off + (i + 1)) hb.drew
      obtain ⟨cs2, b2, s2, g2⟩ := Blk.setCells [.int .i64 (x : Int)] (off + i) b1
      refine ⟨g, off, c, rfl, .inr ⟨g, off, cs2, rfl, b2, by simp; omega, hcm, by omega, fun j y hj => ?_⟩, (Fr.setCells _ _ (Fr.setCells _ _ ((Fr.refl _ w).drew) (.inl ⟨off, rfl⟩)) (.inl ⟨off, rfl⟩)), .inl ⟨off, rfl⟩⟩
      rw [ins_at hi] at hj
      rw [g2, g1]
      simp only [List.length_singleton, List.length_drop, ints_len]
      by_cases h1 : j < i
      · rw [if_pos h1] at hj
        rw [if_neg (by omega), if_neg (by omega)]
        exact hcell j y hj
      · rw [if_neg h1] at hj
        by_cases h2 : j = i
        · subst h2
          rw [if_pos rfl] at hj
          rw [if_pos ⟨Nat.le_refl _, by omega, by omega⟩, Nat.sub_self]
          rw [← Option.some.inj hj]; rfl
        · rw [if_neg h2] at hj
          have hjl := (List.getElem?_eq_some_iff.1 hj).1
          rw [if_neg (by omega), if_pos ⟨by omega, by omega, by omega⟩, List.getElem?_drop, show i + (off + j - (off + (i + 1))) = j - 1 by omega]
          exact ints_at hj
    · have hc := Any2.slices_Insert_int_grow Try.insI g off l.length c i vb 0 1 1 (ints l) [.int .i64 (x : Int)] w hin (by omega) hll.1 (by omega) (by omega) (ints_len l) rfl (hcsA g off rfl) hvs (ints_one l) h1v
      change Calls Try.prog 36 _ _ _ at hc
      refine hc.mono ?_
      rintro e w' ⟨rfl, rfl⟩
      have hge := grownCap_ge w (l.length + 1) c 3
      have hle := grownCap_le_maxLen w (l.length + 1) c 3 (by unfold maxLen; omega)
      unfold maxLen at hle
      have hge' : l.length + 1 ≤ grownCap w (l.length + 1) c (Try.insI_ren.t 3) := hge
      have hle' : grownCap w (l.length + 1) c (Try.insI_ren.t 3) ≤ 9223372036854775807 := hle
      generalize grownCap w (l.length + 1) c (Try.insI_ren.t 3) = K at hge' hle' ⊢
      have b0 := Blk.new w 3 (((ints l).take i).toArray ++ Builtin.zeroCells (Value.int .i64 0).cells (l.length + 1 - i) ++ Builtin.zeroCells (Value.int .i64 0).cells (K - (l.length + 1)))
      obtain ⟨cs1, b1, s1, g1⟩ := Blk.setCells [.int .i64 (x : Int)] i b0.drew
      obtain ⟨cs2, b2, s2, g2⟩ := Blk.setCells ((ints l).drop i) (i + 1) b1.drew
      have hs0 : (((ints l).take i).toArray ++ Builtin.zeroCells (Value.int .i64 0).cells (l.length + 1 - i) ++ Builtin.zeroCells (Value.int .i64 0).cells (K - (l.length + 1))).size = K := by
        simp [Builtin.zeroCells, Value.cells, ints_len]
        omega
      have hB : Blk _ w.heap.size 3 cs2 := b2
      refine ⟨w.heap.size, 0, K, rfl, .inr ⟨w.heap.size, 0, cs2, rfl, hB, by simp; omega, hle', by omega, fun j y hj => ?_⟩, ?_, .inr (Nat.le_refl _)⟩
      · rw [ins_at hi] at hj
        rw [Nat.zero_add, g2, g1, s1]
        simp only [List.length_singleton, List.length_drop, ints_len]
        by_cases h1 : j < i
        · rw [if_pos h1] at hj
          rw [if_neg (by omega), if_neg (by omega)]
          have hjl := (List.getElem?_eq_some_iff.1 hj).1
          rw [Array.getElem?_append_left (by simp [Builtin.zeroCells, Value.cells, ints_len]; omega), Array.getElem?_append_left (by simp [ints_len]; omega)]
          simp only [List.getElem?_toArray, List.getElem?_take, if_pos h1]
          exact ints_at hj
        · rw [if_neg h1] at hj
          by_cases h2 : j = i
          · subst h2
            rw [if_pos rfl] at hj
            rw [if_neg (by omega), if_pos ⟨Nat.le_refl _, by omega, by omega⟩, Nat.sub_self]
            rw [← Option.some.inj hj]; rfl
          · rw [if_neg h2] at hj
            have hjl := (List.getElem?_eq_some_iff.1 hj).1
            rw [if_pos ⟨by omega, by omega, by omega⟩, List.getElem?_drop, show i + (j - (i + 1)) = j - 1 by omega]
            exact ints_at hj
      · exact Fr.setCells _ _ ((Fr.setCells _ _ (((Fr.refl _ w).alloc _).drew) (.inr (Nat.le_refl _))).drew) (.inr (Nat.le_refl _))
  · obtain rfl : i = l.length := by omega
    by_cases hroom : l.length + 1 ≤ c
    · rcases h with ⟨_, _, rfl⟩ | ⟨g, off, cur, rfl, hb, hlc, hcm, hcs, hcell⟩
      · omega
      · have h' : Row w (some ⟨g, off, none⟩) c l := .inr ⟨g, off, cur, rfl, hb, hlc, hcm, hcs, hcell⟩
        have hc := Any2.slices_Insert_int_end_room Try.insI g off l.length c vb 0 1 1 [.int .i64 (x : Int)] w (by omega) hroom hcm rfl (fun j hj => by rw [Nat.add_assoc]; exact h'.room _ (by omega)) (fun j _ => h'.frozen _) hvs h1v
        change Calls Try.prog 36 _ _ _ at hc
        refine hc.mono ?_
        rintro e w' ⟨rfl, rfl⟩
        obtain ⟨cs1, b1, s1, g1⟩ := Blk.setCells [.int .i64 (x : Int)] (off + l.length) hb
        refine ⟨g, off, c, rfl, .inr ⟨g, off, cs1, rfl, b1, by simp; omega, hcm, by omega, fun j y hj => ?_⟩, Fr.setCells _ _ (Fr.refl _ w) (.inl ⟨off, rfl⟩), .inl ⟨off, rfl⟩⟩
        rw [ins_at hi] at hj
        rw [g1]
        simp only [List.length_singleton]
        by_cases h1 : j < l.length
        · rw [if_pos h1] at hj
          rw [if_neg (by omega)]
          exact hcell j y hj
        · rw [if_neg h1] at hj
          by_cases h2 : j = l.length
          · subst h2
            rw [if_pos rfl] at hj
            rw [if_pos ⟨Nat.le_refl _, by omega, by omega⟩, Nat.sub_self]
            rw [← Option.some.inj hj]; rfl
          · rw [if_neg h2] at hj
            have hjl := (List.getElem?_eq_some_iff.1 hj).1
            omega
    · have hadd : ∀ (a : Addr), A = some a → ∃ g o, a = ⟨g, o, none⟩ := by
        rintro a rfl
        rcases h with ⟨h, _⟩ | ⟨g, o, cur, h, _⟩
        · cases h
        · exact ⟨g, o, Option.some.inj h⟩
      have hc := Any2.slices_Insert_int_end_grow Try.insI A l.length c vb 0 1 1 (ints l) [.int .i64 (x : Int)] w (by omega) hll.1 (by omega) (by omega) (ints_len l) rfl (fun e => by
          rcases h with ⟨_, rfl, _⟩ | ⟨g, o, cur, h, _⟩
          · rfl
          · rw [e] at h; cases h)
        (fun a e j v hj => by
          obtain ⟨g, o, rfl⟩ := hadd a e
          have := hcsA g o e j v hj
          unfold Addr.add
          by_cases h0 : j = 0
          · subst h0; simpa using this
          · rw [if_neg h0]; exact this) hvs h1v
      change Calls Try.prog 36 _ _ _ at hc
      refine hc.mono ?_
      rintro e w' ⟨rfl, rfl⟩
      have hge := grownCap_ge w (l.length + 1) c 3
      have hle := grownCap_le_maxLen w (l.length + 1) c 3 (by unfold maxLen; omega)
      unfold maxLen at hle
      have hge' : l.length + 1 ≤ grownCap w (l.length + 1) c (Try.insI_ren.t 3) := hge
      have hle' : grownCap w (l.length + 1) c (Try.insI_ren.t 3) ≤ 9223372036854775807 := hle
      generalize grownCap w (l.length + 1) c (Try.insI_ren.t 3) = K at hge' hle' ⊢
      have b0 : Blk (w.drew.alloc (.cells ((ints l ++ [Value.int .i64 (x : Int)]).toArray ++ Builtin.zeroCells (Value.int .i64 0).cells (K - (l.length + 1))) 3)) w.heap.size 3 _ := Blk.new w.drew 3 ((ints l ++ [Value.int .i64 (x : Int)]).toArray ++ Builtin.zeroCells (Value.int .i64 0).cells (K - (l.length + 1)))
      refine ⟨w.heap.size, 0, K, rfl, .inr ⟨w.heap.size, 0, _, rfl, b0, by simp; omega, hle', by simp [Builtin.zeroCells, Value.cells, ints_len]; omega, fun j y hj => ?_⟩, ((Fr.refl _ w).drew).alloc _, .inr (Nat.le_refl _)⟩
      rw [List.take_of_length_le (Nat.le_refl _), List.drop_eq_nil_of_le (Nat.le_refl _)] at hj
      have hjl := (List.getElem?_eq_some_iff.1 hj).1
      rw [List.length_append] at hjl
      simp only [List.length_singleton] at hjl
      rw [Nat.zero_add, Array.getElem?_append_left (by simp [ints_len]; omega)]
      rw [List.getElem?_toArray]
      have : ints l ++ [Value.int .i64 (x : Int)] = ints (l ++ [x]) := by simp [ints]
      rw [this]
      exact ints_at hj
end Go.Proofs.Ytncjhfofmeamdaa
