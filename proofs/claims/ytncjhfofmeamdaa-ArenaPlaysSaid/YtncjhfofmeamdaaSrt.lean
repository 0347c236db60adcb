/- slices.Sort of a row. -/
import Derived.Test.YtncjhfofmeamdaaAr
import Derived.Shelf.Lay
import Derived.Shelf.Sort.Plain
import Derived.Shelf.Slices.In.SortNone
import Derived.Ground.NamesProg
import Derived.Test.YtncjhfofmeamdaaSl
namespace Go.Proofs.Ytncjhfofmeamdaa
open Go.Proofs Go.Shelf Go.RowKit Go.Lib Go.Sort
shelf_lay Lays.n189 Nm 189 at Try as Try.srtI

theorem toI_sort (l : List Nat) : (toI l).mergeSort (fun x y => decide (x ≤ y)) = toI (l.mergeSort fun x y => decide (x ≤ y)) := by
  unfold toI
  rw [List.map_mergeSort]
  intro a _ b _
  simp
theorem Fr.grow {S : Nat → Prop} {a w : World} (h : Fr S a w) (os : Array Obj) : Fr S a (Go.Sort.grow w os) := by
  obtain ⟨l, rfl⟩ : ∃ l : List Obj, os = l.toArray := ⟨os.toList, by simp⟩
  induction l generalizing w with
  | nil => simpa using h
  | cons o r ih =>
    have h2 := ih (h.alloc o)
    rw [alloc_eq_grow, grow_grow] at h2
    simpa using h2
theorem sort_any {w : World} {A : Option Addr} {c : Nat} {l : List Nat} (h : Row w A c l) (hl : l.length < 1000000) :
    Calls Try.prog 32 #[.slice A l.length c] w fun e w' => e = .returned (.tuple #[]) ∧ Row w' A c (l.mergeSort fun x y => decide (x ≤ y)) ∧ Fr (fun k => ∃ o, A = some ⟨k, o, none⟩) w w' := by
  by_cases h0 : l.length = 0
  · have hn : l = [] := List.length_eq_zero_iff.1 h0
    subst hn
    have hc := Any.slices_Sort_int_none Try.srtI A c w
    change Calls Try.prog 32 _ _ _ at hc
    refine hc.mono ?_
    rintro e w' ⟨rfl, rfl⟩
    exact ⟨rfl, by simpa using h, Fr.refl _ _⟩
  · obtain ⟨g, off, rfl⟩ := h.some_ (by omega)
    obtain ⟨cur, hb, hlc, hcm, hcs, hcell⟩ := h.open_
    have hc := Any.slices_Sort_int Try.srtI g off c (toI l) w (holds_row h) h.lt (by rw [toI_len]; omega)
    change Calls Try.prog 32 _ _ _ at hc
    rw [toI_len, toI_sort] at hc
    refine hc.mono ?_
    rintro e w' ⟨rfl, q, os, rfl⟩
    obtain ⟨l2, hl2⟩ : ∃ l2, l2 = l.mergeSort fun x y => decide (x ≤ y) := ⟨_, rfl⟩
    have hlen : l2.length = l.length := by rw [hl2, List.length_mergeSort]
    rw [← hl2]
    have hR : Row (putRow (Value.int .i64) (Sort.ahead w q) g off (toI l2).toArray) (some ⟨g, off, none⟩) c l2 := by
      refine .inr ⟨g, off, putCells (Value.int .i64) off (toI l2).toArray cur, rfl, ?_, by omega, hcm, by simpa [putCells] using hcs, ?_⟩
      · unfold Blk at hb ⊢
        simp only [putRow, mapBlock, Sort.ahead]
        rw [Array.getElem?_modify, if_pos rfl, hb]
        rfl
      · intro j x hj
        have hj2 : j < l2.length := (List.getElem?_eq_some_iff.1 hj).1
        have hsz : (toI l2).toArray.size = l2.length := by simp [toI]
        simp only [putCells, Array.getElem?_mapIdx]
        rw [Array.getElem?_eq_getElem (by omega)]
        simp only [Option.map_some]
        rw [if_pos (by omega), Nat.add_sub_cancel_left]
        congr 1
        rw [getElem!_pos _ j (by omega)]
        have : (toI l2)[j]? = some (x : Int) := by unfold toI; rw [List.getElem?_map, hj]; rfl
        rw [List.getElem?_eq_getElem (by rw [toI_len]; exact hj2)] at this
        simp only [List.getElem_toArray]
        rw [Option.some.inj this]
    have hF : Fr (fun k => ∃ o, (some ⟨g, off, none⟩ : Option Addr) = some ⟨k, o, none⟩) w (putRow (Value.int .i64) (Sort.ahead w q) g off (toI l2).toArray) := by
      refine ⟨rfl, rfl, rfl, by simp [putRow, mapBlock, Sort.ahead], fun k _ hk => ?_⟩
      simp only [putRow, mapBlock, Sort.ahead]
      rw [Array.getElem?_modify, if_neg (fun e => hk ⟨off, by rw [e]⟩)]
    exact ⟨rfl, hR.fr0 (Fr.grow (Fr.refl _ _) os), Fr.grow hF os⟩
end Go.Proofs.Ytncjhfofmeamdaa
