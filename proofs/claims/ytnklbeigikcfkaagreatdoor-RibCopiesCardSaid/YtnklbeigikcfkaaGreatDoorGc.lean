/- slices.Delete of one path. keep, Drop. Drop. New, Best. Count: how many paths there are. slices.Clone of paths; Paths. Over: the prefixes that hold an address. -/
import Derived.Test.YtnklbeigikcfkaaGreatDoorGb
import Derived.Test.YtnklbeigikcfkaaGreatDoorWy
import Derived.Deep.RegionWith
import Derived.Deep.LoopGhost
import Derived.Test.YtnklbeigikcfkaaGreatDoorApm
import Derived.Lib.SliceRun
import Derived.Test.YtnklbeigikcfkaaGreatDoorRp4
namespace Go.Proofs.YtnklbeigikcfkaaGreatDoor
open Go.Proofs Go.RowKit
theorem Own.shorter {w : World} {e : TypeId} {size g n c : Nat} {xs : List Value} (h : Own w e size (some ⟨g, 0, none⟩) n c xs) {i : Nat} (hi : i ≤ n) : Own w e size (some ⟨g, 0, none⟩) i c (xs.take (i * size)) := by
  obtain ⟨hl, h⟩ := h
  have hm : i * size ≤ n * size := Nat.mul_le_mul_right _ hi
  refine ⟨by rw [List.length_take]; omega, .inr ?_⟩
  rcases h with ⟨h, _⟩ | ⟨g', cur, hv, hg, hnc, hcm, hcs, ht⟩
  · cases h
  · exact ⟨g', cur, hv, hg, by omega, hcm, hcs, by rw [← ht, List.take_take, Nat.min_eq_left hm]⟩
theorem setsL_take : ∀ (vs L : List Value) (o : Nat), o + vs.length ≤ L.length → (setsL L o vs).take (o + vs.length) = L.take o ++ vs := by
  intro vs L o h
  apply List.ext_getElem?
  intro i
  rw [List.getElem?_take, List.getElem?_append, List.length_take, Nat.min_eq_left (by omega)]
  by_cases h1 : i < o
  · rw [if_pos (by omega), if_pos h1, setsL_at _ _ _ _ h, if_neg (by omega), List.getElem?_take, if_pos h1]
  · rw [if_neg h1]
    by_cases h2 : i < o + vs.length
    · rw [if_pos h2, setsL_at _ _ _ _ h, if_pos (by omega)]
    · rw [if_neg h2, List.getElem?_eq_none (by omega)]
theorem Own.far {e : TypeId} {size g n c : Nat} {xs : List Value} (vs : List Value) : ∀ {w : World} (o : Nat), Own w e size (some ⟨g, 0, none⟩) n c xs → n * size ≤ o → Own (w.setCells g o vs) e size (some ⟨g, 0, none⟩) n c xs := by
  induction vs with
  | nil => intro w o h _; exact h
  | cons v r ih =>
    intro w o h ho
    refine ih (o + 1) ?_ (by omega)
    have := h.set_ o v
    rwa [List.set_eq_of_length_le (by rw [h.1]; exact ho)] at this
theorem zero7 : (Tryz.prog.info? 34).map (fun i => (i.zero, i.size, i.bytes)) = some (some (.agg #[.int .i64 0, .int .i64 0, .bool false, .int .u64 0, .int .u64 0, .int .i64 0, .bool false]), 7, 56) := by kernel_rfl
/-- Elements moved down in their own block. -/
theorem run_down {w : World} {g n c : Nat} {l r : List Pa} (ho : Own w 34 7 (some ⟨g, 0, none⟩) n c (flat l)) (hn : l.length = n) {i m c2 : Nat} (hr : r.length = m) (him : i + m ≤ n) (a : Addr) (hsrc : ∀ k v, (flat r)[k]? = some v → w.cell? (a.add k) = some v) (ty : TypeId) :
    (Builtin.append_ #[42, 42] ty #[.slice (some ⟨g, 0, none⟩) i c, .slice (some a) m c2]).run Tryz.prog w = .ok (.slice (some ⟨g, 0, none⟩) (i + m) c) (w.setCells g (i * 7) (flat r)) := by
  obtain ⟨i0, hi, hz0, hz1, hz2⟩ := info_parts zero7
  have hnc := ho.len_le
  have hsz : (flat r).length = m * 7 := by rw [flat_length, hr]
  have hfo := run_firstCells_some (P := Tryz.prog) w i0.size m a m c2 (flat r) (by rw [hz1]; exact hsz) hsrc
  have hst := run_storeCells_cells (P := Tryz.prog) g (i * 7) (flat r) 0 w
    (fun k hk => by
      rw [Nat.add_zero, ho.cell (i * 7 + k) (by rw [hsz] at hk; omega), List.getElem?_eq_getElem (by rw [hsz] at hk; rw [flat_length, hn]; omega)]; rfl)
    (fun k hk => by rw [Nat.add_zero]; exact ho.cell_none _)
    (flat_one_cell _)
  simp only [Nat.add_zero] at hst
  have hroom : i + m ≤ c := by omega
  rw [hz1] at hfo
  have hfo' : ∀ c2', (Builtin.firstCells 7 m (.slice (some a) m c2')).run Tryz.prog w = .ok (flat r).toArray w := fun _ => hfo
  simp [Builtin.append_, run_underlying Tryz.underlying42, sizeOf, typeInfo, hi, hz1, Builtin.lenOf, hroom, hfo', Addr.add_lit, hst]
theorem clear_from {w : World} {g n c : Nat} {xs : List Value} (ho : Own w 34 7 (some ⟨g, 0, none⟩) n c xs) {i : Nat} (hi : i < n) (ty : TypeId) :
    ∃ w', (Builtin.clear_ #[42] ty #[.slice (some ⟨g, i * 7, none⟩) (n - i) (c - i)]).run Tryz.prog w = .ok (.tuple #[]) w' ∧ Own w' 34 7 (some ⟨g, 0, none⟩) i c (xs.take (i * 7)) ∧ Fr (fun k => k = g) w w' := by
  obtain ⟨m, hm⟩ : ∃ m, n - i = m + 1 := ⟨n - i - 1, by omega⟩
  have hlen : (Builtin.zeroCells #[Value.int .i64 0, Value.int .i64 0, Value.bool false, Value.int .u64 0, Value.int .u64 0, Value.int .i64 0, Value.bool false] (m + 1)).toList.length = (m + 1) * 7 := by simp [Builtin.zeroCells]
  have hst := run_storeCells_cells (P := Tryz.prog) g (i * 7) (Builtin.zeroCells #[Value.int .i64 0, Value.int .i64 0, Value.bool false, Value.int .u64 0, Value.int .u64 0, Value.int .i64 0, Value.bool false] (m + 1)).toList 0 w
    (fun j hj => by
      rw [Nat.add_zero, ho.cell (i * 7 + j) (by omega), List.getElem?_eq_getElem (by have := ho.1; omega)]; rfl)
    (fun j hj => by rw [Nat.add_zero]; exact ho.cell_none _)
    (fun v hv => by
      simp only [Builtin.zeroCells, Array.toList_map, List.mem_map] at hv
      obtain ⟨k, _, rfl⟩ := hv
      have h3 : k % 7 < 7 := Nat.mod_lt _ (by omega)
      show Value.oneCell' (#[Value.int .i64 0, Value.int .i64 0, Value.bool false, Value.int .u64 0, Value.int .u64 0, Value.int .i64 0, Value.bool false][k % 7]!) = true
      generalize k % 7 = q at h3 ⊢
      have : q = 0 ∨ q = 1 ∨ q = 2 ∨ q = 3 ∨ q = 4 ∨ q = 5 ∨ q = 6 := by omega
      rcases this with rfl | rfl | rfl | rfl | rfl | rfl | rfl <;> rfl)
  simp only [Nat.add_zero] at hst
  refine ⟨w.setCells g (i * 7) (Builtin.zeroCells #[Value.int .i64 0, Value.int .i64 0, Value.bool false, Value.int .u64 0, Value.int .u64 0, Value.int .i64 0, Value.bool false] (m + 1)).toList, ?_, Own.far _ _ (ho.shorter (Nat.le_of_lt hi)) (Nat.le_refl _), Fr.setsC _ _ (Fr.refl _ _) (.inl rfl)⟩
  · rw [hm]
    simp [Builtin.clear_, run_underlying Tryz.underlying42, Tryz.zeroValue34, hst, Value.cells]
section
variable {w : World}
set_option maxHeartbeats 6400000 in
set_option maxRecDepth 100000 in
theorem del_ (g n c i : Nat) (l : List Pa) (ho : Own w 34 7 (some ⟨g, 0, none⟩) n c (flat l)) (hn : l.length = n) (hi : i < n) (hn4 : n ≤ 1000) :
    Calls Tryz.prog 44 #[.slice (some ⟨g, 0, none⟩) n c, .int .i64 i, .int .i64 ((i : Int) + 1)] w fun e w' =>
      e = .returned (.slice (some ⟨g, 0, none⟩) (n - 1) c) ∧ Own w' 34 7 (some ⟨g, 0, none⟩) (n - 1) c (flat (l.eraseIdx i)) ∧ Fr (fun k => k = g) w w' := by
  have hnc := ho.len_le
  obtain ⟨q, hq⟩ : ∃ q, q + 1 = n := ⟨n - 1, by omega⟩
  have hrl : (l.drop (i + 1)).length = n - (i + 1) := by rw [List.length_drop, hn]
  have hod := ho.fr ((Fr.refl N0 w).drew) fun _ _ => id
  have hsz : (flat (l.drop (i + 1))).length = (n - (i + 1)) * 7 := by rw [flat_length, hrl]
  have hl1 : Sem.run Tryz.prog (loadCellsFrom ⟨g, (i + 1) * 7, none⟩ 0 ((n - (i + 1)) * 7) #[]) w.drew = .ok (flat (l.drop (i + 1))).toArray w.drew := by
    have := run_loadCells_list (P := Tryz.prog) (w := w.drew) ⟨g, (i + 1) * 7, none⟩ (flat (l.drop (i + 1))) (by
      intro k v hk
      have hk' : k < (n - (i + 1)) * 7 := by rw [← hsz]; exact (List.getElem?_eq_some_iff.1 hk).1
      have : (⟨g, (i + 1) * 7, none⟩ : Addr).add k = ⟨g, (i + 1) * 7 + k, none⟩ := by
        unfold Addr.add
        split <;> simp_all
      rw [this, hod.cell ((i + 1) * 7 + k) (by omega), ← hk, ← flat_drop, List.getElem?_drop])
    rw [hsz] at this
    simpa [loadCells] using this
  have hs1 : Sem.run Tryz.prog (storeCells ⟨g, i * 7, none⟩ (flat (l.drop (i + 1))) 0) w.drew = .ok () (w.drew.setCells g (i * 7) (flat (l.drop (i + 1)))) := by
    have := run_storeCells_cells (P := Tryz.prog) g (i * 7) (flat (l.drop (i + 1))) 0 w.drew
      (fun k hk => by
        rw [Nat.add_zero, hod.cell (i * 7 + k) (by rw [hsz] at hk; omega), List.getElem?_eq_getElem (by rw [hsz] at hk; rw [flat_length, hn]; omega)]; rfl)
      (fun k hk => by rw [Nat.add_zero]; exact hod.cell_none _)
      (flat_one_cell _)
    simpa using this
  have ho2 : Own (w.drew.setCells g (i * 7) (flat (l.drop (i + 1)))) 34 7 (some ⟨g, 0, none⟩) n c (setsL (flat l) (i * 7) (flat (l.drop (i + 1)))) := hod.setsC _ _
  have ht : (setsL (flat l) (i * 7) (flat (l.drop (i + 1)))).take (q * 7) = flat (l.eraseIdx i) := by
    have h1 : q * 7 = i * 7 + (flat (l.drop (i + 1))).length := by rw [hsz]; omega
    rw [h1, setsL_take _ _ _ (by rw [hsz, flat_length, hn]; omega), flat_take, ← flat_append, List.eraseIdx_eq_take_drop_succ]
  have hf2 : Fr (fun k => k = g) w (w.drew.setCells g (i * 7) (flat (l.drop (i + 1)))) := Fr.setsC _ _ (Fr.refl _ w).drew (.inl rfl)
  obtain ⟨w5, hcl, ho5, hf5⟩ := clear_from ho2 (i := q) (by omega) 0
  rw [ht] at ho5
  have HO5 := Lib.hid ho5
  have HF5 := Lib.hid (hf2.trans hf5)
  have hic : i ≤ c := by omega
  have hic1 : i + 1 ≤ n := by omega
  have hqc : ¬ c = q := by omega
  have hqn : q ≤ n := by omega
  have hnc2 : n ≤ c := hnc.1
  have HQ := Lib.hid hq
  clear ho hn hod ho2 ht hf2 ho5 hf5 hq
  have hiI : (i : Int) + 1 ≤ (n : Int) := by omega
  have hi0 : (0 : Int) ≤ (i : Int) + 1 := by omega
  by_cases hc : c = i + 1
  · obtain rfl : n = i + 1 := by omega
    obtain rfl : q = i := by have := HQ.out; omega
    subst hc
    have h0 : l.drop (q + 1) = [] := List.length_eq_zero_iff.1 (by rw [hrl]; omega)
    rw [h0] at hcl
    clear hl1 hs1 hsz hrl h0
    have hcl' : (Builtin.clear_ #[42] 0 #[.slice (some ⟨g, q * 7, none⟩) 1 1]).run Tryz.prog w.drew = .ok (.tuple #[]) w5 := by
      have e : w.drew.setCells g (q * 7) (flat ([] : List Pa)) = w.drew := rfl
      rw [e] at hcl
      simpa using hcl
    clear hcl
    go_enter Tryz.func44, Tryz.ntmps44
    go_wp2_with fail
    go_region
    go_wp2_with fail
    go_ret
    exact ⟨rfl, HO5.out, HF5.out⟩
  · have he : i + (n - (i + 1)) = q := by have := HQ.out; omega
    have hroom : i + (n - (i + 1)) ≤ c := by omega
    clear hsz hrl
    generalize w.drew.setCells g (i * 7) (flat (l.drop (i + 1))) = w3 at *
    generalize flat (l.drop (i + 1)) = cs at *
    go_enter Tryz.func44, Tryz.ntmps44
    go_wp2_with fail
    go_region
    go_wp2_with fail
    go_ret
    rw [show n - 1 = q by have := HQ.out; omega]
    exact ⟨rfl, HO5.out, HF5.out⟩
end
end Go.Proofs.YtnklbeigikcfkaaGreatDoor
namespace Go.Proofs.YtnklbeigikcfkaaGreatDoor
open Go.Proofs Go.RowKit Go.ChangeShapes Go.WideShapes
open Go.Maps (Keyed)
/-- The map behind a prefix's slice was laid anew, or taken away where it is empty. -/
def Kept (M : List (Px × Sl)) (k : Nat) (p : Px) (s : Sl) : List (Px × Sl) := if s.2.1 = 0 then M.eraseIdx k else M.set k (p, s)
section
variable {w : World}
set_option maxHeartbeats 6400000 in
set_option maxRecDepth 100000 in
theorem keep_ (r b k : Nat) (M : List (Px × Sl)) (p : Px) (s0 : Sl) (A : Option Addr) (n c : Nat) (hB : Blk w r 61 #[.map (some b)]) (hM : MapIs Tryz.prog 32 pxV slV w b M) (hk : M[k]? = some (p, s0)) :
    Calls Tryz.prog 43 #[.pointer (some ⟨r, 0, none⟩), pxV p, .slice A n c] w fun e w' => e = .returned (.tuple #[]) ∧ MapIs Tryz.prog 32 pxV slV w' b (Kept M k p (A, n, c)) ∧ Fr (fun j => j = b) w w' := by
  have HK := Lib.hid hk
  obtain ⟨⟨s, h1, l⟩, m⟩ := p
  have hB1 := hB.alloc (.cells #[.bool s, .int .u64 (h1 : Int), .int .u64 (l : Int), .int .i64 m] 32)
  have M1 := (hM.alloc (.cells #[.bool s, .int .u64 (h1 : Int), .int .u64 (l : Int), .int .i64 m] 32)).drewN 1
  have cr := hB1.c1'
  have hltr := hB1.lt
  obtain ⟨x0, x1, x2, x3⟩ := (Blk.new w 32 #[.bool s, .int .u64 (h1 : Int), .int .u64 (l : Int), .int .i64 m]).c4
  have F1 := Lib.hid (show Fr (fun j => j = b) w (w.alloc (.cells #[.bool s, .int .u64 (h1 : Int), .int .u64 (l : Int), .int .i64 m] 32)).drew from ((Fr.refl _ w).alloc _).drew)
  unfold Kept
  by_cases hn : n = 0
  · obtain ⟨w6, hrun, hM6, f6, _⟩ := M1.drop_some (ty := 0) keyedP Tryz.underlying59 hk
    have hrun' : (Builtin.delete_ #[59, 32] 0 #[.map (some b), .agg #[.bool s, .int .u64 (h1 : Int), .int .u64 (l : Int), .int .i64 m]]).run Tryz.prog (w.alloc (.cells #[.bool s, .int .u64 (h1 : Int), .int .u64 (l : Int), .int .i64 m] 32)).drew = .ok (.tuple #[]) w6 := hrun
    have HM6 := Lib.hid hM6
    have F6 := Lib.hid (F1.out.trans (show Fr (fun j => j = b) (w.alloc (.cells #[.bool s, .int .u64 (h1 : Int), .int .u64 (l : Int), .int .i64 m] 32)).drew w6 from f6))
    rw [if_pos hn]
    subst hn
    clear hrun hM6 f6 M1 hB hM hk hB1
    go_enter Tryz.func43, Tryz.ntmps43
    unfold pxV
    go_wp2_with fail
    go_region
    go_wp2_with fail
    refine bodyPost_ret (results_none rfl _ _ _) rfl ?_
    exact ⟨rfl, HM6.out, F6.out⟩
  · obtain ⟨w6, hrun, hM6, f6, _⟩ := M1.store_old keyedP Tryz.underlying59 ((A, n, c) : Sl) hk
    have hrun' : (Instr.mapUpdate 59 (.map (some b)) (.agg #[.bool s, .int .u64 (h1 : Int), .int .u64 (l : Int), .int .i64 m]) (.slice A n c)).run Tryz.prog (w.alloc (.cells #[.bool s, .int .u64 (h1 : Int), .int .u64 (l : Int), .int .i64 m] 32)).drew = .ok () w6 := hrun
    have HM6 := Lib.hid hM6
    have F6 := Lib.hid (F1.out.trans (show Fr (fun j => j = b) (w.alloc (.cells #[.bool s, .int .u64 (h1 : Int), .int .u64 (l : Int), .int .i64 m] 32)).drew w6 from f6))
    rw [if_neg hn]
    have t0 : ((n : Int) == 0) = false := by rw [beq_eq_false_iff_ne]; omega
    clear hrun hM6 f6 M1 hB hM hk hB1
    go_enter Tryz.func43, Tryz.ntmps43
    unfold pxV
    go_wp2_with fail
    go_region
    go_wp2_with fail
    go_end0
    exact ⟨rfl, HM6.out, F6.out⟩
end
end Go.Proofs.YtnklbeigikcfkaaGreatDoor
namespace Go.Proofs.YtnklbeigikcfkaaGreatDoor
open Go.Proofs Go.RowKit Go.ChangeShapes Go.WideShapes
open Go.Maps (Keyed)
theorem blk_ne_map {w : World} {r b : Nat} {cs : Array Value} {t : TypeId} {M : List (Px × Sl)} (hB : Blk w r t cs) (hM : MapIs Tryz.prog 32 pxV slV w b M) : r ≠ b := by
  rintro rfl
  obtain ⟨es, clock, hh, _⟩ := hM
  unfold Blk at hB
  rw [hh] at hB
  cases hB
/-- The rib behind a step that left fewer paths, in their own block. -/
theorem RibIs.kept {w w' : World} {r b k g n c n' c' : Nat} {F : Nat → Prop} {L L' : List Td} {M : List (Px × Sl)} {p : Px} (h : RibIs w r F L)
    (hB : Blk w r 61 #[.map (some b)]) (hM : MapIs Tryz.prog 32 pxV slV w b M) (hR : RibM w F M L) (hFb : F b) (hk : M[k]? = some (p, (some ⟨g, 0, none⟩, n, c))) (hf : Fr (fun j => j = g ∨ j = b) w w')
    (hM' : MapIs Tryz.prog 32 pxV slV w' b (Kept M k p (some ⟨g, 0, none⟩, n', c'))) (ho : Own w' 34 7 (some ⟨g, 0, none⟩) n' c' (flat (pathsT L' p))) (hrow : RowT clsA L') (hL : ∀ q, q ≠ p → pathsT L' q = pathsT L q) : RibTo w r F L' w' := by
  obtain ⟨g0, e0, hFg, ho0, _⟩ := hR.ent p _ (List.mem_of_getElem? hk)
  cases e0
  have hn : (pathsT L' p).length = n' := by
    have := ho.1
    rw [flat_length] at this
    omega
  have hS : ∀ q t g3, q ≠ p → (q, t) ∈ M → t.1 = some ⟨g3, 0, none⟩ → ¬ (g3 = g ∨ g3 = b) := by
    rintro q t g3 hq hm ht (rfl | rfl)
    · exact hq (hR.apart q t _ _ hm (List.mem_of_getElem? hk) ht)
    · obtain ⟨g4, e3, _, ho3, _⟩ := hR.ent q t hm
      rw [ht] at e3 ho3
      cases e3
      exact own_ne_map ho3 hM rfl
  have hSF : ∀ i, (i = g ∨ i = b) → F i ∨ w.heap.size ≤ i := fun i hi => .inl (hi.elim (fun e => e ▸ hFg) fun e => e ▸ hFb)
  have hr : ¬ (r = g ∨ r = b) := fun hr => hr.elim (fun e => own_ne_other ho0 hB (by decide) e.symm) (blk_ne_map hB hM)
  unfold Kept at hM'
  by_cases h0 : n' = 0
  · rw [if_pos h0, erase_filter hM.apart hk] at hM'
    refine h.stepLess hB hR hFb hf hSF hr hM' hrow hS hL (List.length_eq_zero_iff.1 (hn.trans h0)) (fun q t hm => ?_) fun q t hq hm => List.mem_filter.2 ⟨hm, decide_eq_true hq⟩
    obtain ⟨h1, h2⟩ := List.mem_filter.1 hm
    exact ⟨of_decide_eq_true h2, h1⟩
  · rw [if_neg h0] at hM'
    refine h.step hB hR hFb hf hSF hr hM' hrow hS hL (fun q t hm => set_mem hM.apart hk hm) (self_set hk _) (fun q t hq hm => mem_set hk hq hm) rfl (.inl ⟨_, List.mem_of_getElem? hk, rfl⟩) ho hn ?_
    intro e
    rw [e] at hn
    exact h0 hn.symm
section
variable {w : World}
set_option maxHeartbeats 12800000 in
set_option maxRecDepth 100000 in
theorem drp_no (r : Nat) (Ft : Nat → Prop) (L : List Td) (p : Px) (x : Pa) (h : RibIs w r Ft L) (hp : p.ok) (hw : (pathsT L p).any (sameW x) = false) :
    Calls Tryz.prog 21 #[.pointer (some ⟨r, 0, none⟩), pxV p, paV x] w fun e w' => e = .returned (.int .i64 142) ∧ Fr N0 w w' := by
  obtain ⟨b, M, hB, hM, hR, hFb⟩ := h.mem
  obtain ⟨A, n, c, K⟩ := look_at (b := b) hR p hp
  have hlen := K.len
  have HBR := Lib.hid hB
  have HM := Lib.hid hM
  have HK := Lib.hid K
  have hbef : ∀ j y, j < n → (pathsT L p)[j]? = some y → sameW x y = false := fun j y _ hy => by
    rw [List.any_eq_false] at hw
    simpa using hw y (List.mem_of_getElem? hy)
  have hn4 : n ≤ 4 := by have := h.row.four p; omega
  have HWY := Lib.hid fun (W : World) (hW : Fr N0 w W) => way_ (w := W) x A n c (pathsT L p) (HK.out.own.fr hW fun _ _ => id) HK.out.len (by omega) n (Nat.le_refl _) hbef (fun y hy => by rw [List.getElem?_eq_none (by omega)] at hy; cases hy)
  rw [if_neg (Nat.lt_irrefl n)] at HWY
  clear h hB hM hR K hlen hw hbef hp hFb
  obtain ⟨⟨s, h1, l⟩, m⟩ := p
  obtain ⟨q, z, ⟨s', h', l'⟩, o, a⟩ := x
  unfold pxV paV
  unfold paV at HWY
  simp only at HWY ⊢
  have hrun := HK.out.look (((w.alloc (.cells #[.bool s, .int .u64 (h1 : Int), .int .u64 (l : Int), .int .i64 m] 32)).alloc (.cells #[.int .i64 q, .int .i64 z, .bool s', .int .u64 (h' : Int), .int .u64 (l' : Int), .int .i64 o, .bool a] 34)).drew) (((HM.out.alloc _).alloc _).drewN 1)
  unfold pxV at hrun
  simp only at hrun
  have cr := ((HBR.out.alloc (.cells #[.bool s, .int .u64 (h1 : Int), .int .u64 (l : Int), .int .i64 m] 32)).alloc (.cells #[.int .i64 q, .int .i64 z, .bool s', .int .u64 (h' : Int), .int .u64 (l' : Int), .int .i64 o, .bool a] 34)).c1'
  have hltr := ((HBR.out.alloc (.cells #[.bool s, .int .u64 (h1 : Int), .int .u64 (l : Int), .int .i64 m] 32)).alloc (.cells #[.int .i64 q, .int .i64 z, .bool s', .int .u64 (h' : Int), .int .u64 (l' : Int), .int .i64 o, .bool a] 34)).lt
  go_enter Tryz.func21, Tryz.ntmps21
  go_wp2_with fail
  have HA1 := Lib.hid ((Blk.new w 32 #[Value.bool s, Value.int .u64 (h1 : Int), Value.int .u64 (l : Int), Value.int .i64 m]).alloc (.cells #[Value.int .i64 q, Value.int .i64 z, Value.bool s', Value.int .u64 (h' : Int), Value.int .u64 (l' : Int), Value.int .i64 o, Value.bool a] 34))
  have HA2 := Lib.hid (Blk.alloc2 w (.cells #[Value.bool s, Value.int .u64 (h1 : Int), Value.int .u64 (l : Int), Value.int .i64 m] 32) 34 #[Value.int .i64 q, Value.int .i64 z, Value.bool s', Value.int .u64 (h' : Int), Value.int .u64 (l' : Int), Value.int .i64 o, Value.bool a])
  have HF1 := Lib.hid (Fr.alloc (Fr.alloc (Fr.refl N0 w) (.cells #[Value.bool s, Value.int .u64 (h1 : Int), Value.int .u64 (l : Int), Value.int .i64 m] 32)) (.cells #[Value.int .i64 q, Value.int .i64 z, Value.bool s', Value.int .u64 (h' : Int), Value.int .u64 (l' : Int), Value.int .i64 o, Value.bool a] 34))
  generalize World.alloc (w.alloc _) _ = w1 at *
  obtain ⟨g2, hg2⟩ : ∃ g2, g2 = w.heap.size + 1 := ⟨_, rfl⟩
  rw [← hg2] at HA2 ⊢
  have HG2 : Hid (w.heap.size ≤ g2) := Lib.hid (by omega)
  obtain ⟨g1, hg1⟩ : ∃ g1, g1 = w.heap.size := ⟨_, rfl⟩
  rw [← hg1] at HA1 ⊢
  have HG1 : Hid (w.heap.size ≤ g1) := Lib.hid (by omega)
  have HN1_2 : Hid (g1 ≠ g2) := Lib.hid (by omega)
  clear hg1 hg2
  have HZ1 : Hid (∀ W, Fr N0 w1 W → Blk W g1 32 #[Value.bool s, Value.int .u64 (h1 : Int), Value.int .u64 (l : Int), Value.int .i64 m]) := Lib.hid fun W hf => HA1.out.fr hf id
  have HZ2 : Hid (∀ W, Fr N0 w1 W → Blk W g2 34 #[Value.int .i64 q, Value.int .i64 z, Value.bool s', Value.int .u64 (h' : Int), Value.int .u64 (l' : Int), Value.int .i64 o, Value.bool a]) := Lib.hid fun W hf => HA2.out.fr hf id
  have F := Lib.hid (Fr.refl N0 w1)
  obtain ⟨z1_0, z1_1, z1_2, z1_3⟩ := (HZ1.out _ F.out).c4
  obtain ⟨z2_0, z2_1, z2_2, z2_3, z2_4, z2_5, z2_6⟩ := (HZ2.out _ F.out).c7
  go_region
  go_wp2_with fail
  refine (HWY.out _ HF1.out.drew).mono ?_
  rintro e w3 ⟨rfl, hf⟩
  go_wp2_with fail
  go_ret
  exact ⟨rfl, HF1.out.drew.trans hf⟩
set_option maxHeartbeats 12800000 in
set_option maxRecDepth 100000 in
theorem drp_in (r : Nat) (Ft : Nat → Prop) (L : List Td) (p : Px) (x : Pa) (h : RibIs w r Ft L) (hp : p.ok) (hw : (pathsT L p).any (sameW x) = true) :
    Calls Tryz.prog 21 #[.pointer (some ⟨r, 0, none⟩), pxV p, paV x] w fun e w' => e = .returned (.int .i64 0) ∧ RibTo w r Ft (noW p x L) w' := by
  obtain ⟨b, M, hB, hM, hR, hFb⟩ := h.mem
  obtain ⟨A, n, c, K⟩ := look_at (b := b) hR p hp
  obtain ⟨i, hin, hbef, hati⟩ := way_find x (pathsT L p)
  have hil : i < (pathsT L p).length := by
    rcases Nat.lt_or_ge i (pathsT L p).length with k | k
    · exact k
    · exfalso
      obtain ⟨j, y, hj, hy⟩ := any_at hw
      rw [hbef j y (by have := (List.getElem?_eq_some_iff.1 hj).1; omega) hj] at hy
      cases hy
  obtain ⟨y, hy⟩ : ∃ y, (pathsT L p)[i]? = some y := ⟨_, List.getElem?_eq_getElem hil⟩
  have hyw := hati y hy
  have hlen := K.len
  obtain ⟨k, g, hk, rfl, hFg, hn0⟩ : ∃ (k g : Nat), M[k]? = some (p, (A, n, c)) ∧ A = some ⟨g, 0, none⟩ ∧ Ft g ∧ 0 < n := by
    rcases K.how with h | ⟨_, _, h, _⟩
    · exact h
    · omega
  have h4 : n ≤ 4 := by have := h.row.four p; omega
  have HH := Lib.hid h
  have HBR := Lib.hid hB
  have HM := Lib.hid hM
  have HR := Lib.hid hR
  have HK := Lib.hid K
  have HI := Lib.hid (show i < n by omega)
  have HY := Lib.hid hy
  have HYW := Lib.hid hyw
  have HKK := Lib.hid hk
  have HFB := Lib.hid hFb
  have HWY := Lib.hid fun (W : World) (hW : Fr N0 w W) => way_ (w := W) x (some ⟨g, 0, none⟩) n c (pathsT L p) (HK.out.own.fr hW fun _ _ => id) HK.out.len (by omega) i (by omega) hbef hati
  rw [if_pos HI.out] at HWY
  have KD := Lib.hid fun (W : World) (hW : Fr N0 w W) => del_ (w := W) g n c i (pathsT L p) (HK.out.own.fr hW fun _ _ => id) HK.out.len HI.out (by omega)
  have hgb : b ≠ g := fun e => own_ne_map HK.out.own HM.out e.symm
  have hgr : r ≠ g := fun e => own_ne_other HK.out.own HBR.out (by decide) e.symm
  have hgw := HH.out.lt g hFg
  have KK := Lib.hid fun (W : World) (hW : Fr (fun j => j = g) w W) (n' c' : Nat) => keep_ (w := W) r b k M p (some ⟨g, 0, none⟩, n, c) (some ⟨g, 0, none⟩) n' c' (HBR.out.fr hW hgr) (HM.out.fr hW hgb) HKK.out
  have hi0 : ¬ ((i : Int) < 0) := by omega
  clear h hB hM hR K hin hbef hati hil hy hyw hlen hk hFg hFb hp hw
  obtain ⟨⟨s, h1, l⟩, m⟩ := p
  obtain ⟨q, z, ⟨s', h', l'⟩, o, a⟩ := x
  unfold pxV at KK ⊢
  unfold paV at HWY ⊢
  simp only at HWY KK ⊢
  have hrun := HK.out.look (((w.alloc (.cells #[.bool s, .int .u64 (h1 : Int), .int .u64 (l : Int), .int .i64 m] 32)).alloc (.cells #[.int .i64 q, .int .i64 z, .bool s', .int .u64 (h' : Int), .int .u64 (l' : Int), .int .i64 o, .bool a] 34)).drew) (((HM.out.alloc _).alloc _).drewN 1)
  unfold pxV at hrun
  simp only at hrun
  have cr := ((HBR.out.alloc (.cells #[.bool s, .int .u64 (h1 : Int), .int .u64 (l : Int), .int .i64 m] 32)).alloc (.cells #[.int .i64 q, .int .i64 z, .bool s', .int .u64 (h' : Int), .int .u64 (l' : Int), .int .i64 o, .bool a] 34)).c1'
  have hltr := ((HBR.out.alloc (.cells #[.bool s, .int .u64 (h1 : Int), .int .u64 (l : Int), .int .i64 m] 32)).alloc (.cells #[.int .i64 q, .int .i64 z, .bool s', .int .u64 (h' : Int), .int .u64 (l' : Int), .int .i64 o, .bool a] 34)).lt
  go_enter Tryz.func21, Tryz.ntmps21
  go_wp2_with fail
  have HA1 := Lib.hid ((Blk.new w 32 #[Value.bool s, Value.int .u64 (h1 : Int), Value.int .u64 (l : Int), Value.int .i64 m]).alloc (.cells #[Value.int .i64 q, Value.int .i64 z, Value.bool s', Value.int .u64 (h' : Int), Value.int .u64 (l' : Int), Value.int .i64 o, Value.bool a] 34))
  have HA2 := Lib.hid (Blk.alloc2 w (.cells #[Value.bool s, Value.int .u64 (h1 : Int), Value.int .u64 (l : Int), Value.int .i64 m] 32) 34 #[Value.int .i64 q, Value.int .i64 z, Value.bool s', Value.int .u64 (h' : Int), Value.int .u64 (l' : Int), Value.int .i64 o, Value.bool a])
  have HF1 := Lib.hid (Fr.alloc (Fr.alloc (Fr.refl N0 w) (.cells #[Value.bool s, Value.int .u64 (h1 : Int), Value.int .u64 (l : Int), Value.int .i64 m] 32)) (.cells #[Value.int .i64 q, Value.int .i64 z, Value.bool s', Value.int .u64 (h' : Int), Value.int .u64 (l' : Int), Value.int .i64 o, Value.bool a] 34))
  generalize World.alloc (w.alloc _) _ = w1 at *
  obtain ⟨g2, hg2⟩ : ∃ g2, g2 = w.heap.size + 1 := ⟨_, rfl⟩
  rw [← hg2] at HA2 ⊢
  have HG2 : Hid (w.heap.size ≤ g2) := Lib.hid (by omega)
  obtain ⟨g1, hg1⟩ : ∃ g1, g1 = w.heap.size := ⟨_, rfl⟩
  rw [← hg1] at HA1 ⊢
  have HG1 : Hid (w.heap.size ≤ g1) := Lib.hid (by omega)
  have HN1_2 : Hid (g1 ≠ g2) := Lib.hid (by omega)
  clear hg1 hg2
  have HZ1 : Hid (∀ W, Fr N0 w1 W → Blk W g1 32 #[Value.bool s, Value.int .u64 (h1 : Int), Value.int .u64 (l : Int), Value.int .i64 m]) := Lib.hid fun W hf => HA1.out.fr hf id
  have HZ2 : Hid (∀ W, Fr N0 w1 W → Blk W g2 34 #[Value.int .i64 q, Value.int .i64 z, Value.bool s', Value.int .u64 (h' : Int), Value.int .u64 (l' : Int), Value.int .i64 o, Value.bool a]) := Lib.hid fun W hf => HA2.out.fr hf id
  have F := Lib.hid (Fr.refl N0 w1)
  obtain ⟨z1_0, z1_1, z1_2, z1_3⟩ := (HZ1.out _ F.out).c4
  obtain ⟨z2_0, z2_1, z2_2, z2_3, z2_4, z2_5, z2_6⟩ := (HZ2.out _ F.out).c7
  go_region
  clear hrun cr hltr
  go_wp2_with fail
  refine (HWY.out _ HF1.out.drew).mono ?_
  rintro e w3 ⟨rfl, hf⟩
  have F3 := Lib.hid (HF1.out.drew.trans hf)
  have Z3 := Lib.hid (F.out.drew.trans hf)
  clear hf z1_0 z1_1 z1_2 z1_3 z2_0 z2_1 z2_2 z2_3 z2_4 z2_5 z2_6
  obtain ⟨x0, x1, x2, x3⟩ := (HZ1.out _ Z3.out).c4
  have hg1 : g1 ≠ g := by have := HG1.out; omega
  go_wp2_with fail
  have hwr : IntKind.i64.wrap ((i : Int) + 1) = (i : Int) + 1 := IntWalk.i64_in _ (by have := HI.out; omega)
  go_region_with (first
    | (go_at_call 44; (with_reducible refine (KD.out _ F3.out.drew).mono ?_); rintro e w4 ⟨rfl, hod, hfd⟩; have HOD := Lib.hid hod; have F4 := Lib.hid ((F3.out.drew.mono (S' := fun j => j = g) fun _ _ h => h.elim).trans hfd); have Z4 := Lib.hid ((Z3.out.drew.mono (S' := fun j => j = g) fun _ _ h => h.elim).trans hfd); clear hod hfd x0 x1 x2 x3; obtain ⟨x0, x1, x2, x3⟩ := (HA1.out.fr Z4.out hg1).c4)
    | (go_at_call 43; (with_reducible refine (KK.out _ F4.out _ _).mono ?_); rintro e w5 ⟨rfl, hMk, hfk⟩))
  all_goals
    go_wp2_with fail
    go_ret
    have e := drop_at_ HH.out.row HY.out HYW.out
    refine ⟨rfl, HH.out.kept HBR.out HM.out HR.out HFB.out HKK.out ((F4.out.mono fun _ _ h => .inl h).trans (hfk.mono fun _ _ h => .inr h)) hMk ?_ ?_ (fun q hq => paths_noW_ne hq L _)⟩
    · rw [e.2]
      exact HOD.out.fr hfk fun j hj (hb : j = b) => by cases hj; exact hgb hb.symm
    · exact HH.out.row.drop' _
theorem drp_ (r : Nat) (Ft : Nat → Prop) (L : List Td) (p : Px) (x : Pa) (h : RibIs w r Ft L) (hp : p.ok) :
    Calls Tryz.prog 21 #[.pointer (some ⟨r, 0, none⟩), pxV p, paV x] w fun e w' => e = .returned (.int .i64 (dropT L p x).2) ∧ RibTo w r Ft (dropT L p x).1 w' := by
  cases hw : (pathsT L p).any (sameW x) with
  | false =>
    rw [drop_no hw]
    exact (drp_no r Ft L p x h hp hw).mono fun e w' ⟨he, hf⟩ => ⟨he, h.to hf⟩
  | true =>
    obtain ⟨i, y, hi, hy⟩ := any_at hw
    rw [(drop_at_ h.row hi hy).1]
    exact drp_in r Ft L p x h hp hw
end
end Go.Proofs.YtnklbeigikcfkaaGreatDoor
namespace Go.Proofs.YtnklbeigikcfkaaGreatDoor
open Go.Proofs Go.RowKit Go.ChangeShapes Go.WideShapes
open Go.Maps (Keyed)
def zeroPa : Pa := ⟨0, 0, ⟨false, 0, 0⟩, 0, false⟩
def bestT (L : List Td) (p : Px) : Pa × Bool := match pathsT L p with
  | [] => (zeroPa, false)
  | x :: _ => (x, true)
section
variable {w : World}
set_option maxHeartbeats 1600000 in
set_option maxRecDepth 100000 in
theorem rnew (hd : Dst w) : Calls Tryz.prog 6 #[] w fun e w' => ∃ (g : Nat) (F : Nat → Prop), e = .returned (.pointer (some ⟨g, 0, none⟩)) ∧ RibIs w' g F [] ∧ Fr N0 w w' ∧ ∀ i, F i → w.heap.size ≤ i := by
  have hgd := hd.lt
  have HF := Lib.hid (((Fr.refl N0 w).alloc (.map #[] 0)).alloc (.cells #[.map (some w.heap.size)] 61))
  have hsz : ((w.alloc (.map #[] 0)).alloc (.cells #[.map (some w.heap.size)] 61)).heap.size = w.heap.size + 2 := by simp
  have HR := Lib.hid (show RibIs ((w.alloc (.map #[] 0)).alloc (.cells #[.map (some w.heap.size)] 61)) (w.heap.size + 1) (fun i => w.heap.size ≤ i ∧ i < w.heap.size + 2) [] from
    { mem := ⟨w.heap.size, [], Blk.alloc2 w _ _ _, (MapIs.new w _ _ _ _).alloc _, ⟨nofun, fun p h => absurd rfl h, nofun⟩, by omega⟩
      at_ := by omega
      row := RowT.nil
      dst := hd.n0 HF.out
      nd := fun h => by omega
      lt := fun i hi => by rw [hsz]; exact hi.2 })
  have hmk := run_makeMap (P := Tryz.prog) 59 w
  clear hd hsz hgd
  go_enter Tryz.func6, Tryz.ntmps6
  go_wp2_with fail
  go_ret
  exact ⟨_, _, rfl, HR.out, HF.out, fun i hi => hi.1⟩
set_option maxHeartbeats 6400000 in
set_option maxRecDepth 100000 in
theorem bst_ (r : Nat) (Ft : Nat → Prop) (L : List Td) (p : Px) (h : RibIs w r Ft L) (hp : p.ok) :
    Calls Tryz.prog 19 #[.pointer (some ⟨r, 0, none⟩), pxV p] w fun e w' => e = .returned (.tuple #[paV (bestT L p).1, .bool (bestT L p).2]) ∧ Fr N0 w w' := by
  obtain ⟨b, M, hB, hM, hR, hFb⟩ := h.mem
  obtain ⟨A, n, c, K⟩ := look_at (b := b) hR p hp
  have HBR := Lib.hid hB
  have HM := Lib.hid hM
  have HK := Lib.hid K
  have HBE := Lib.hid (show bestT L p = match pathsT L p with | [] => (zeroPa, false) | x :: _ => (x, true) from rfl)
  clear h hB hM hR K hp hFb
  obtain ⟨⟨s, h1, l⟩, m⟩ := p
  unfold pxV
  simp only
  have hrun := HK.out.look (((w.alloc (.cells #[.bool s, .int .u64 (h1 : Int), .int .u64 (l : Int), .int .i64 m] 32)).alloc (.cells #[.int .i64 0, .int .i64 0, .bool false, .int .u64 0, .int .u64 0, .int .i64 0, .bool false] 34)).drew) (((HM.out.alloc _).alloc _).drewN 1)
  unfold pxV at hrun
  simp only at hrun
  have cr := ((HBR.out.alloc (.cells #[.bool s, .int .u64 (h1 : Int), .int .u64 (l : Int), .int .i64 m] 32)).alloc (.cells #[.int .i64 0, .int .i64 0, .bool false, .int .u64 0, .int .u64 0, .int .i64 0, .bool false] 34)).c1'
  have hltr := ((HBR.out.alloc (.cells #[.bool s, .int .u64 (h1 : Int), .int .u64 (l : Int), .int .i64 m] 32)).alloc (.cells #[.int .i64 0, .int .i64 0, .bool false, .int .u64 0, .int .u64 0, .int .i64 0, .bool false] 34)).lt
  have HLE := Lib.hid HK.out.len
  go_enter Tryz.func19, Tryz.ntmps19
  go_wp2_with fail
  have HA1 := Lib.hid ((Blk.new w 32 #[Value.bool s, Value.int .u64 (h1 : Int), Value.int .u64 (l : Int), Value.int .i64 m]).alloc (.cells #[Value.int .i64 0, Value.int .i64 0, Value.bool false, Value.int .u64 0, Value.int .u64 0, Value.int .i64 0, Value.bool false] 34))
  have HA2 := Lib.hid (Blk.alloc2 w (.cells #[Value.bool s, Value.int .u64 (h1 : Int), Value.int .u64 (l : Int), Value.int .i64 m] 32) 34 #[Value.int .i64 0, Value.int .i64 0, Value.bool false, Value.int .u64 0, Value.int .u64 0, Value.int .i64 0, Value.bool false])
  have HF1 := Lib.hid (Fr.alloc (Fr.alloc (Fr.refl N0 w) (.cells #[Value.bool s, Value.int .u64 (h1 : Int), Value.int .u64 (l : Int), Value.int .i64 m] 32)) (.cells #[Value.int .i64 0, Value.int .i64 0, Value.bool false, Value.int .u64 0, Value.int .u64 0, Value.int .i64 0, Value.bool false] 34))
  generalize World.alloc (w.alloc _) _ = w1 at *
  obtain ⟨g2, hg2⟩ : ∃ g2, g2 = w.heap.size + 1 := ⟨_, rfl⟩
  rw [← hg2] at HA2 ⊢
  have HG2 : Hid (w.heap.size ≤ g2) := Lib.hid (by omega)
  obtain ⟨g1, hg1⟩ : ∃ g1, g1 = w.heap.size := ⟨_, rfl⟩
  rw [← hg1] at HA1 ⊢
  have HG1 : Hid (w.heap.size ≤ g1) := Lib.hid (by omega)
  have HN1_2 : Hid (g1 ≠ g2) := Lib.hid (by omega)
  clear hg1 hg2
  have HZ1 : Hid (∀ W, Fr N0 w1 W → Blk W g1 32 #[Value.bool s, Value.int .u64 (h1 : Int), Value.int .u64 (l : Int), Value.int .i64 m]) := Lib.hid fun W hf => HA1.out.fr hf id
  have HZ2 : Hid (∀ W, Fr N0 w1 W → Blk W g2 34 #[Value.int .i64 0, Value.int .i64 0, Value.bool false, Value.int .u64 0, Value.int .u64 0, Value.int .i64 0, Value.bool false]) := Lib.hid fun W hf => HA2.out.fr hf id
  have F := Lib.hid (Fr.refl N0 w1)
  obtain ⟨z1_0, z1_1, z1_2, z1_3⟩ := (HZ1.out _ F.out).c4
  obtain ⟨z2_0, z2_1, z2_2, z2_3, z2_4, z2_5, z2_6⟩ := (HZ2.out _ F.out).c7
  go_region
  clear hrun
  cases hl : pathsT L ⟨⟨s, h1, l⟩, m⟩ with
  | nil =>
    have hn : n = 0 := by have := HLE.out; rw [hl] at this; exact this.symm
    have hnI : ¬ ((0 : Int) < (n : Int)) := by omega
    have HBQ := Lib.hid (show bestT L ⟨⟨s, h1, l⟩, m⟩ = (zeroPa, false) by rw [HBE.out, hl])
    clear hl HLE hn HK
    go_wp2_with (refine wpList_store_row rfl 34 _ _ rfl g2 _ rfl rfl _ _ HA2.out.drew rfl rfl (by simp [Value.oneCell']) ?_)
    refine ret_cell2 rfl rfl (HA2.out.drew.row _) Tryz.underlying34 rfl ⟨?_, Fr.setRow HF1.out.drew (.inr HG2.out) _⟩
    rw [HBQ.out]
    rfl
  | cons x rr =>
    have hn0 : 0 < n := by have := HLE.out; rw [hl] at this; rw [← this]; simp
    have hnI : (0 : Int) < (n : Int) := by omega
    obtain ⟨g, rfl⟩ := HK.out.own.some_ hn0
    have ho := HK.out.own.fr HF1.out.drew fun _ _ => id
    obtain ⟨e0, e1, e2, e3, e4, e5, e6⟩ := ho.e7 HK.out.len (j := 0) (x := x) (by rw [hl]; rfl)
    simp only [Nat.zero_mul, Nat.zero_add] at e0 e1 e2 e3 e4 e5 e6
    have HBQ := Lib.hid (show bestT L ⟨⟨s, h1, l⟩, m⟩ = (x, true) by rw [HBE.out, hl])
    clear hl HLE HK ho
    go_wp2_with (refine wpList_store_row rfl 34 _ _ rfl g2 _ rfl rfl _ _ HA2.out.drew rfl rfl (by simp [Value.oneCell']) ?_)
    refine ret_cell2 rfl rfl (HA2.out.drew.row _) Tryz.underlying34 rfl ⟨?_, Fr.setRow HF1.out.drew (.inr HG2.out) _⟩
    rw [HBQ.out]
    rfl
end
end Go.Proofs.YtnklbeigikcfkaaGreatDoor
namespace Go.Proofs.YtnklbeigikcfkaaGreatDoor
open Go.Proofs Go.RowKit Go.ChangeShapes Go.WideShapes
open Go.Maps (Keyed)
def sumS (l : List (Px × Sl)) : Nat := (l.map fun e => e.2.2.1).sum
theorem sumS_erase : ∀ {l : List (Px × Sl)} {i : Nat} {e : Px × Sl}, l[i]? = some e → sumS l = e.2.2.1 + sumS (l.eraseIdx i)
  | [], i, e, h => by simp at h
  | a :: r, 0, e, h => by
    simp only [List.getElem?_cons_zero, Option.some.injEq] at h
    subst h
    simp [sumS]
  | a :: r, i + 1, e, h => by
    have ih := sumS_erase (l := r) (i := i) (by simpa using h)
    simp only [sumS, List.map_cons, List.sum_cons, List.eraseIdx_cons_succ] at ih ⊢
    omega
/-- What the entries hold together is the whole row. -/
theorem RibM.sum {w : World} {F : Nat → Prop} {M : List (Px × Sl)} {L : List Td} (h : RibM w F M L) (hap : M.Pairwise fun p q => p.1 ≠ q.1) : sumS M = L.length := by
  have hn : (M.map (·.1)).Nodup := List.pairwise_map.2 hap
  have k := sum_paths L hn fun u hu => by
    have : pathsT L u.1 ≠ [] := fun e => by
      have := mem_pathsT (p := u.1) (x := u.2).2 hu
      rw [e] at this
      cases this
    obtain ⟨s, hs⟩ := h.all u.1 this
    exact List.mem_map.2 ⟨_, hs, rfl⟩
  rw [← k, List.map_map]
  unfold sumS
  congr 1
  refine List.map_congr_left fun e he => ?_
  obtain ⟨p, s⟩ := e
  exact (h.ent p s he).choose_spec.2.2.2.1.symm
theorem len_le {L : List Td} (h : RowT clsA L) : L.length ≤ 360 := by
  have k := sum_paths L (prefsT_nodup h.up) fun u hu => mem_prefsT.2 ⟨u.2, hu⟩
  have hm := h.many
  rw [← k]
  have : ∀ ks : List Px, (ks.map fun p => (pathsT L p).length).sum ≤ 4 * ks.length := by
    intro ks
    induction ks with
    | nil => simp
    | cons a r ih =>
      have := h.four a
      simp only [List.map_cons, List.sum_cons, List.length_cons]
      omega
  have := this (prefsT L)
  omega
section
variable {w : World}
set_option maxHeartbeats 3200000 in
set_option maxRecDepth 100000 in
theorem cnt_ (r : Nat) (Ft : Nat → Prop) (L : List Td) (h : RibIs w r Ft L) :
    Calls Tryz.prog 20 #[.pointer (some ⟨r, 0, none⟩)] w fun e w' => e = .returned (.int .i64 (L.length : Int)) ∧ Fr N0 w w' := by
  obtain ⟨b, M, hB, hM, hR, hFb⟩ := h.mem
  have hsum := hR.sum hM.apart
  have hle := len_le h.row
  generalize L.length = t at *
  have cr := hB.c1'
  have hltr := hB.lt
  have HM := Lib.hid hM
  have HSUM := Lib.hid hsum
  have hbw := hM.lt
  clear h hB hM hR hFb hsum
  go_enter Tryz.func20, Tryz.ntmps20
  go_wp2_with (first | (at_range; refine wpList_range _ rfl (.tmp 9) 59 rfl 32 42 Tryz.underlying59 pxV slV b _ HM.out rfl ?_))
  intro w1 hI f1 s1
  have HI := Lib.hid hI
  have HF := Lib.hid (show Fr N0 w w1 from f1)
  clear hI f1 s1 cr hltr HM
  obtain ⟨g0, hg0⟩ : ∃ g0, g0 = w.heap.size := ⟨_, rfl⟩
  have HG0 := Lib.hid (show w.heap.size ≤ g0 by omega)
  rw [← hg0] at HI ⊢
  clear hg0 hbw
  go_wp2_with fail
  go_loopg [3, 5] M.length (fun gk v _ wr => ∃ (k : Nat) (rest : List (Px × Sl)), rest.length = gk ∧ v = .int .i64 (k : Int) ∧ IterIs Tryz.prog 32 pxV slV wr g0 b M rest ∧ k + sumS rest = t ∧ Fr N0 w wr)
  case atStart => exact ⟨0, M, rfl, rfl, HI.out, by have := HSUM.out; omega, HF.out⟩
  case round =>
    obtain ⟨k, rest, hgk, rfl, hI2, hk, hF2⟩ := hrel
    have HF2 := Lib.hid hF2
    have HGK := Lib.hid hgk
    have HK := Lib.hid hk
    have hk0 : k ≤ 360 := by omega
    clear hgk hF2 HI HF hk
    go_wp2_with (first | (at_next; refine wpList_next_ _ rfl (.tmp 10) rfl 32 pxV slV g0 b _ _ hI2 rfl ?_ ?_))
    · intro h0
      subst h0
      have e := HK.out
      simp only [sumS, List.map_nil, List.sum_nil, Nat.add_zero] at e
      subst e
      go_wp2_with fail
      go_ret
      exact ⟨rfl, HF2.out⟩
    · intro i p A n c w2 hi hI3 f3 s3 hent
      have e := sumS_erase hi
      have HS := Lib.hid (show k + n + sumS (rest.eraseIdx i) = t by have := HK.out; simp only at e; omega)
      have hn : k + n ≤ 360 := by have := HS.out; omega
      have HI3 := Lib.hid hI3
      have HF3 := Lib.hid (show Fr N0 w w2 from HF2.out.step f3 fun j hj => .inr (hj ▸ HG0.out))
      have HLN := Lib.hid (show (rest.eraseIdx i).length + 1 = gk by
        have h1 := (List.getElem?_eq_some_iff.1 hi).1
        have := HGK.out
        rw [List.length_eraseIdx, if_pos h1]
        omega)
      unfold slV at hent ⊢
      simp only at hent ⊢
      clear hI3 f3 s3 e hi
      go_wp2_with fail
      go_roundg (gk - 1)
      case rel => exact ⟨k + n, rest.eraseIdx i, by have := HLN.out; omega, by go_num, HI3.out, HS.out, HF3.out⟩
      case measure => have := HLN.out; omega

end
end Go.Proofs.YtnklbeigikcfkaaGreatDoor
namespace Go.Proofs.YtnklbeigikcfkaaGreatDoor
open Go.Proofs Go.RowKit Go.ChangeShapes Go.WideShapes
open Go.Maps (Keyed)
/-- A slice of its own that holds the list, in memory laid since w. -/
def NewPs (w w' : World) (v : Value) (l : List Pa) : Prop := ∃ A c, v = .slice A l.length c ∧ Own w' 34 7 A l.length c (flat l) ∧ Fr N0 w w' ∧ ∀ g, A = some ⟨g, 0, none⟩ → w.heap.size ≤ g
section
variable {w : World}
set_option maxHeartbeats 3200000 in
set_option maxRecDepth 100000 in
theorem cln_ (A : Option Addr) (n c : Nat) (l : List Pa) (ho : Own w 34 7 A n c (flat l)) (hn : l.length = n) (hn4 : n ≤ 1000) :
    Calls Tryz.prog 34 #[.slice A n c] w fun e w' => ∃ v, e = .returned v ∧ NewPs w w' v l := by
  have hcase : (A = none ∧ n = 0 ∧ c = 0 ∧ l = []) ∨ ∃ g, A = some ⟨g, 0, none⟩ := by
    rcases ho.2 with ⟨h1, h2, h3⟩ | ⟨g, cur, h1, _⟩
    · exact .inl ⟨h1, h2, h3, List.length_eq_zero_iff.1 (hn.trans h2)⟩
    · exact .inr ⟨g, h1⟩
  rcases hcase with ⟨rfl, rfl, rfl, rfl⟩ | ⟨g, rfl⟩
  · have HO := Lib.hid ho
    have hnil : ∀ W, (binOp .eql 42 (.slice none 0 0) (.slice none 0 0)).run Tryz.prog W = .ok (.bool true) W := fun W => Lib.run_eql_slice_nil W _ _ none 0 0 0 0 Tryz.underlying42
    clear ho hn
    go_enter Tryz.func34, Tryz.ntmps34
    go_wp2_with fail
    go_ret
    exact ⟨_, rfl, none, 0, rfl, HO.out, Fr.refl _ _, nofun⟩
  · have hO1 := ho.fr ((Fr.refl N0 w).alloc (.cells #[] 34)) fun _ _ => id
    have hZ : Own (w.alloc (.cells #[] 34)) 34 7 (some ⟨w.heap.size, 0, none⟩) 0 0 [] := ⟨rfl, .inr ⟨w.heap.size, #[], rfl, heap_alloc_new w _, Nat.le_refl _, by decide, rfl, rfl⟩⟩
    obtain ⟨i0, hi, hz0, hz1, hz2⟩ := info_parts zero7
    have HO := Lib.hid hO1
    have HZ := Lib.hid hZ
    have HN := Lib.hid hn
    have HF := Lib.hid ((Fr.refl N0 w).alloc (.cells #[] 34))
    have hnil : ∀ W, (binOp .eql 42 (.slice (some ⟨g, 0, none⟩) n c) (.slice none 0 0)).run Tryz.prog W = .ok (.bool false) W := fun W => Lib.run_eql_slice_nil W _ _ (some ⟨g, 0, none⟩) n c 0 0 Tryz.underlying42
    clear ho hn hO1 hZ
    go_enter Tryz.func34, Tryz.ntmps34
    go_wp2_with (at_builtin; refine wpList_appendM _ rfl (.tmp 5) (.tmp 6) 42 rfl 34 i0 _ 7 56 Tryz.underlying42 hi hz0 hz1 hz2 rfl (by omega) (some ⟨w.heap.size, 0, none⟩) 0 0 _ rfl HZ.out ⟨g, 0, none⟩ n c (flat l) rfl ?_ ?_ ?_ ?_ ?_ ?_)
    · rw [flat_length, HN.out]
    · intro j u hj
      have hjn := (List.getElem?_eq_some_iff.1 hj).1
      rw [flat_length, HN.out] at hjn
      have : (⟨g, 0, none⟩ : Addr).add j = ⟨g, j, none⟩ := by
        unfold Addr.add
        split <;> simp_all
      rw [this, HO.out.cell j hjn]
      exact hj
    · exact flat_one_cell _
    · omega
    · omega
    · intro A' c' w2 ho2 f2 hA
      have HO2 := Lib.hid ho2
      have HF2 := Lib.hid (HF.out.step f2 fun i hi => .inr (Nat.le_of_eq hi))
      have HA := Lib.hid (show ∀ g', A' = some ⟨g', 0, none⟩ → w.heap.size ≤ g' from by
        intro g' e
        rcases hA with h | ⟨g2, h, h2⟩
        · rw [h] at e; cases e; exact Nat.le_refl _
        · rw [h] at e; cases e; omega)
      clear ho2 f2 hA hi hz0 hz1 hz2
      go_wp2_with fail
      go_ret
      have hn := HN.out
      subst hn
      exact ⟨_, rfl, A', c', rfl, HO2.out, HF2.out, HA.out⟩
set_option maxHeartbeats 6400000 in
set_option maxRecDepth 100000 in
theorem pth_ (r : Nat) (Ft : Nat → Prop) (L : List Td) (p : Px) (h : RibIs w r Ft L) (hp : p.ok) :
    Calls Tryz.prog 11 #[.pointer (some ⟨r, 0, none⟩), pxV p] w fun e w' => ∃ v, e = .returned v ∧ NewPs w w' v (pathsT L p) := by
  obtain ⟨b, M, hB, hM, hR, hFb⟩ := h.mem
  obtain ⟨A, n, c, K⟩ := look_at (b := b) hR p hp
  have HBR := Lib.hid hB
  have HM := Lib.hid hM
  have HK := Lib.hid K
  have hlen := K.len
  have hn4 : n ≤ 1000 := by have := h.row.four p; omega
  have KC := Lib.hid fun (W : World) (hW : Fr N0 w W) => cln_ (w := W) A n c (pathsT L p) (HK.out.own.fr hW fun _ _ => id) HK.out.len hn4
  clear h hB hM hR K hp hFb hlen hn4
  obtain ⟨⟨s, h1, l⟩, m⟩ := p
  unfold pxV
  simp only
  have hrun := HK.out.look ((w.alloc (.cells #[.bool s, .int .u64 (h1 : Int), .int .u64 (l : Int), .int .i64 m] 32)).drew) ((HM.out.alloc _).drewN 1)
  unfold pxV at hrun
  simp only at hrun
  have cr := (HBR.out.alloc (.cells #[.bool s, .int .u64 (h1 : Int), .int .u64 (l : Int), .int .i64 m] 32)).c1'
  have hltr := (HBR.out.alloc (.cells #[.bool s, .int .u64 (h1 : Int), .int .u64 (l : Int), .int .i64 m] 32)).lt
  go_enter Tryz.func11, Tryz.ntmps11
  go_wp2_with fail
  have HA1 := Lib.hid (Blk.new w 32 #[Value.bool s, Value.int .u64 (h1 : Int), Value.int .u64 (l : Int), Value.int .i64 m])
  have HF1 := Lib.hid (Fr.alloc (Fr.refl N0 w) (.cells #[Value.bool s, Value.int .u64 (h1 : Int), Value.int .u64 (l : Int), Value.int .i64 m] 32))
  generalize w.alloc _ = w1 at *
  obtain ⟨g1, hg1⟩ : ∃ g1, g1 = w.heap.size := ⟨_, rfl⟩
  rw [← hg1] at HA1 ⊢
  have HG1 : Hid (w.heap.size ≤ g1) := Lib.hid (by omega)
  clear hg1
  have HZ1 : Hid (∀ W, Fr N0 w1 W → Blk W g1 32 #[Value.bool s, Value.int .u64 (h1 : Int), Value.int .u64 (l : Int), Value.int .i64 m]) := Lib.hid fun W hf => HA1.out.fr hf id
  have F := Lib.hid (Fr.refl N0 w1)
  obtain ⟨z1_0, z1_1, z1_2, z1_3⟩ := (HZ1.out _ F.out).c4
  go_region_with (go_at_call 34; (with_reducible refine (KC.out _ HF1.out.drew).mono ?_); rintro e w4 ⟨v, rfl, hv⟩)
  all_goals
    go_wp2_with fail
    go_ret
    obtain ⟨A', c', rfl, h1, h2, h3⟩ := hv
    exact ⟨_, rfl, A', c', rfl, h1, HF1.out.drew.trans h2, fun g hg => Nat.le_trans HF1.out.size (h3 g hg)⟩
end
end Go.Proofs.YtnklbeigikcfkaaGreatDoor
namespace Go.Proofs.YtnklbeigikcfkaaGreatDoor
open Go.Proofs Go.RowKit Go.ChangeShapes Go.WideShapes
open Go.Maps (Keyed)
def Px.cs (p : Px) : List Value := [.bool p.ad.six, .int .u64 (p.ad.hi : Int), .int .u64 (p.ad.lo : Int), .int .i64 p.bits]
instance : Cells Px 4 where
  cs := Px.cs
  len _ := rfl
  pos := by decide
  one x v hv := by simp [Px.cs] at hv; rcases hv with rfl | rfl | rfl | rfl <;> rfl
theorem infoPx : (Tryz.prog.info? 32).map (fun i => (i.zero, i.size, i.bytes)) = some (some (.agg #[.bool false, .int .u64 0, .int .u64 0, .int .i64 0]), 4, 32) := by kernel_rfl
/-- A slice of its own that holds the prefixes, in memory laid since w. -/
def NewXs (w w' : World) (v : Value) (l : List Px) : Prop := ∃ A c, v = .slice A l.length c ∧ Own w' 32 4 A l.length c (flat l) ∧ Fr N0 w w' ∧ ∀ g, A = some ⟨g, 0, none⟩ → w.heap.size ≤ g
theorem ofP_ok {a : Ad} (ho : a.ok) {k : Nat} (hk : k ≤ 128) : (ofP a (k : Int)).1.ok := by
  unfold ofP
  split
  · exact ⟨cut_ok ho _, by simp only; omega, by simp only; omega⟩
  · exact ⟨⟨by decide, by decide⟩, by decide, by decide⟩
section
variable {w : World}
set_option maxHeartbeats 6400000 in
set_option maxRecDepth 100000 in
theorem ovr_ (r : Nat) (Ft : Nat → Prop) (L : List Td) (a : Ad) (h : RibIs w r Ft L) (ha : a.ok) :
    Calls Tryz.prog 25 #[.pointer (some ⟨r, 0, none⟩), adV a] w fun e w' => ∃ v, e = .returned v ∧ NewXs w w' v (overT L a) := by
  obtain ⟨b, M, hB, hM, hR, hFb⟩ := h.mem
  have HDN := Lib.hid (dnT_over h.row ha)
  have HBR := Lib.hid hB
  have HM := Lib.hid hM
  have HR := Lib.hid hR
  have HA := Lib.hid ha
  have KO := Lib.hid fun (W : World) (k : Nat) (hk : k ≤ 128) => of_ (w := W) a ha (k : Int) (by omega) (by omega)
  clear h hB hM hR hFb ha
  obtain ⟨s, h1, l⟩ := a
  unfold adV at KO ⊢
  simp only at KO ⊢
  go_enter Tryz.func25, Tryz.ntmps25
  go_wp2_with fail
  have HA1 := Lib.hid (Blk.new w 30 #[Value.bool s, Value.int .u64 (h1 : Int), Value.int .u64 (l : Int)])
  have HF1 := Lib.hid (Fr.alloc (Fr.refl N0 w) (.cells #[Value.bool s, Value.int .u64 (h1 : Int), Value.int .u64 (l : Int)] 30))
  generalize w.alloc _ = w1 at *
  obtain ⟨g1, hg1⟩ : ∃ g1, g1 = w.heap.size := ⟨_, rfl⟩
  rw [← hg1] at HA1 ⊢
  have HG1 : Hid (w.heap.size ≤ g1) := Lib.hid (by omega)
  clear hg1
  have HZ1 : Hid (∀ W, Fr N0 w1 W → Blk W g1 30 #[Value.bool s, Value.int .u64 (h1 : Int), Value.int .u64 (l : Int)]) := Lib.hid fun W hf => HA1.out.fr hf id
  have F := Lib.hid (Fr.refl N0 w1)
  go_loopw [5, 6, 7, 8] (fun so sn _ _ wr => ∃ (k c : Nat) (A : Option Addr) (o : List Px), k ≤ 129 ∧ sn = .int .i64 ((k : Int) - 1) ∧ so = .slice A o.length c ∧ Own wr 32 4 A o.length c (flat o) ∧ (∀ g, A = some ⟨g, 0, none⟩ → w.heap.size ≤ g ∧ g ≠ g1) ∧ o.length + k ≤ 129 ∧ o ++ dnT L ⟨s, h1, l⟩ k = overT L ⟨s, h1, l⟩ ∧ Fr N0 w wr ∧ Blk wr g1 30 #[.bool s, .int .u64 (h1 : Int), .int .u64 (l : Int)]) (fun _ sn _ _ _ => (intOf sn + 1).toNat)
  case atStart => exact ⟨129, 0, none, [], by omega, rfl, rfl, Own.nil_ _ _ _, nofun, by simp, HDN.out, HF1.out, HA1.out⟩
  case round =>
    obtain ⟨k, c, A, o, hk, rfl, rfl, hO, hN, hlen, hD, hF2, hbx⟩ := hrel
    have HO := Lib.hid hO
    have HN := Lib.hid hN
    have HD := Lib.hid hD
    have HF2 := Lib.hid hF2
    have HBX := Lib.hid hbx
    clear hO hN hD hF2 hbx
    cases k with
    | zero =>
      have hnI : ¬ ((0 : Int) ≤ ((0 : Nat) : Int) - 1) := by omega
      go_wp2_with fail
      go_ret
      have e := HD.out
      rw [dnT, List.append_nil] at e
      rw [← e]
      exact ⟨_, rfl, A, c, rfl, HO.out, HF2.out, fun g hg => (HN.out g hg).1⟩
    | succ j =>
      have hnI : (0 : Int) ≤ (j : Int) := by omega
      have hj1 : ((j + 1 : Nat) : Int) - 1 = (j : Int) := by omega
      rw [hj1]
      have hj : j ≤ 128 := by omega
      obtain ⟨a0, a1, a2⟩ := HBX.out.c3
      have hqo := ofP_ok HA.out hj
      have KJ := KO.out wr j hj
      have hDJ := HD.out
      rw [dnT] at hDJ
      obtain ⟨⟨⟨⟨qs, qh, ql⟩, qm⟩, qc⟩, hq⟩ : ∃ q, q = ofP ⟨s, h1, l⟩ (j : Int) := ⟨_, rfl⟩
      rw [← hq] at KJ hDJ hqo
      unfold pxV at KJ
      simp only at KJ hDJ hqo
      have HQO := Lib.hid hqo
      have HDJ := Lib.hid hDJ
      obtain ⟨A2, n2, c2, K⟩ := look_at (b := b) HR.out ⟨⟨qs, qh, ql⟩, qm⟩ hqo
      have HK := Lib.hid K
      clear hqo hDJ hq K HD
      go_wp2_with fail
      refine KJ.mono ?_
      rintro e w2 ⟨rfl, hf⟩
      have F3 := Lib.hid ((HF2.out.trans hf).alloc (.cells #[.bool qs, .int .u64 (qh : Int), .int .u64 (ql : Int), .int .i64 qm] 32))
      have HBX3 := Lib.hid ((HBX.out.fr hf id).alloc (.cells #[.bool qs, .int .u64 (qh : Int), .int .u64 (ql : Int), .int .i64 qm] 32))
      have HO3 := Lib.hid ((HO.out.fr hf fun _ _ => id).fr ((Fr.refl N0 w2).alloc (.cells #[.bool qs, .int .u64 (qh : Int), .int .u64 (ql : Int), .int .i64 qm] 32)) fun _ _ => id)
      have HB3 := Lib.hid (Blk.new w2 32 #[.bool qs, .int .u64 (qh : Int), .int .u64 (ql : Int), .int .i64 qm])
      clear hf a0 a1 a2 KJ HO HBX
      by_cases hc : qc = 0
      · subst hc
        by_cases hn2 : 0 < n2
        · have hnI2 : (0 : Int) < (n2 : Int) := by omega
          have HD2 := Lib.hid (show (o ++ [⟨⟨qs, qh, ql⟩, qm⟩]) ++ dnT L ⟨s, h1, l⟩ j = overT L ⟨s, h1, l⟩ by
            have := HDJ.out
            rw [if_pos ⟨rfl, fun e => by have := HK.out.len; rw [e] at this; simp at this; omega⟩] at this
            rw [List.append_assoc]
            exact this)
          clear HDJ
          go_wp2_with fail
          generalize w2.alloc _ = w3 at *
          obtain ⟨g7, hg7⟩ : ∃ g, g = w2.heap.size := ⟨_, rfl⟩
          rw [← hg7] at HB3 ⊢
          clear hg7
          have cr := fun x : Fam w3 => (HBR.out.fr (F3.out.trans x.fr) id).c1'
          have z0 := fun x : Fam w3 => (HB3.out.fr x.fr id).c4.1
          have z1 := fun x : Fam w3 => (HB3.out.fr x.fr id).c4.2.1
          have z2 := fun x : Fam w3 => (HB3.out.fr x.fr id).c4.2.2.1
          have z3 := fun x : Fam w3 => (HB3.out.fr x.fr id).c4.2.2.2
          have hlk := fun x : Fam w3 => HK.out.look x.w (HM.out.fr (F3.out.trans x.fr) id)
          unfold pxV at hlk
          simp only at hlk
          refine wp_region_fam (by kernel_rfl) (by kernel_rfl) ?_
          repeat (go_big_quiet_step (fail))
          first | refine wpQuiet_nil ?_ | (go_big_quiet_want; go_big_quiet_op; done)
          rintro _ ⟨xq, rfl⟩
          have HO4 := Lib.hid (HO3.out.fr xq.fr fun _ _ => id)
          have HBX4 := Lib.hid (HBX3.out.fr xq.fr id)
          have F4 := Lib.hid (F3.out.trans xq.fr)
          have y0 := z0 xq
          have y1 := z1 xq
          have y2 := z2 xq
          have y3 := z3 xq
          clear cr z0 z1 z2 z3 hlk HO3 HBX3 F3 HB3
          generalize xq.w = w4 at *
          obtain ⟨i0, hi, hz0, hz1, hz2⟩ := info_parts infoPx
          go_wp2_with (at_builtin; refine wpList_append1 w4 rfl (.tmp 31) (.tmp 33) 44 rfl 32 i0 _ 4 32 Tryz.underlying44 hi hz0 hz1 hz2 rfl (by omega) A o.length c _ rfl HO4.out (Px.cs ⟨⟨qs, qh, ql⟩, qm⟩) rfl rfl ?_ ?_ ?_ ?_)
          · intro u hu; simp [Px.cs] at hu; rcases hu with rfl | rfl | rfl | rfl <;> rfl
          · omega
          · omega
          · intro g' c' w5 ho f7 hg'
            have e1 : flat o ++ Px.cs ⟨⟨qs, qh, ql⟩, qm⟩ = flat (o ++ [⟨⟨qs, qh, ql⟩, qm⟩]) := by rw [flat_append, flat_one]; rfl
            rw [e1] at ho
            have HO5 := Lib.hid ho
            have F5 := Lib.hid (F4.out.step f7 fun i hi => .inr (HN.out i hi).1)
            have HBX5 := Lib.hid (HBX4.out.fr f7 fun hi => (HN.out g1 hi).2 rfl)
            have HN5 := Lib.hid (show ∀ g, some (⟨g', 0, none⟩ : Addr) = some ⟨g, 0, none⟩ → w.heap.size ≤ g ∧ g ≠ g1 from by
              intro g e
              cases e
              rcases hg' with k | k
              · exact HN.out _ k
              · have h2 := F4.out.size
                have h3 := HBX4.out.lt
                exact ⟨by omega, by omega⟩)
            have hl1 : o.length + 1 = (o ++ [(⟨⟨qs, qh, ql⟩, qm⟩ : Px)]).length := by simp
            clear ho f7 hg' y0 y1 y2 y3 hi hz0 hz1 hz2 HO4 HBX4 F4 HN
            go_wp2_with fail
            go_roundw
            case rel => exact ⟨j, c', some ⟨g', 0, none⟩, o ++ [⟨⟨qs, qh, ql⟩, qm⟩], by omega, by go_num, by rw [← hl1], by rw [← hl1]; exact HO5.out, HN5.out, by rw [← hl1]; omega, HD2.out, F5.out, HBX5.out⟩
            case measure => (simp [intOf]; try omega)
        · have hnI2 : ¬ ((0 : Int) < (n2 : Int)) := by omega
          have HD2 := Lib.hid (show o ++ dnT L ⟨s, h1, l⟩ j = overT L ⟨s, h1, l⟩ by
            have := HDJ.out
            rwa [if_neg (fun k => k.2 (List.length_eq_zero_iff.1 (by have := HK.out.len; omega)))] at this)
          clear HDJ
          go_wp2_with fail
          generalize w2.alloc _ = w3 at *
          obtain ⟨g7, hg7⟩ : ∃ g, g = w2.heap.size := ⟨_, rfl⟩
          rw [← hg7] at HB3 ⊢
          clear hg7
          have cr := fun x : Fam w3 => (HBR.out.fr (F3.out.trans x.fr) id).c1'
          have z0 := fun x : Fam w3 => (HB3.out.fr x.fr id).c4.1
          have z1 := fun x : Fam w3 => (HB3.out.fr x.fr id).c4.2.1
          have z2 := fun x : Fam w3 => (HB3.out.fr x.fr id).c4.2.2.1
          have z3 := fun x : Fam w3 => (HB3.out.fr x.fr id).c4.2.2.2
          have hlk := fun x : Fam w3 => HK.out.look x.w (HM.out.fr (F3.out.trans x.fr) id)
          unfold pxV at hlk
          simp only at hlk
          refine wp_region_fam (by kernel_rfl) (by kernel_rfl) ?_
          repeat (go_big_quiet_step (fail))
          first | refine wpQuiet_nil ?_ | (go_big_quiet_want; go_big_quiet_op; done)
          rintro _ ⟨xq, rfl⟩
          have HO4 := Lib.hid (HO3.out.fr xq.fr fun _ _ => id)
          have HBX4 := Lib.hid (HBX3.out.fr xq.fr id)
          have F4 := Lib.hid (F3.out.trans xq.fr)
          clear cr z0 z1 z2 z3 hlk HO3 HBX3 F3 HB3
          generalize xq.w = w4 at *
          go_wp2_with fail
          go_roundw
          case rel => exact ⟨j, c, A, o, by omega, by go_num, rfl, HO4.out, HN.out, by omega, HD2.out, F4.out, HBX4.out⟩
          case measure => (simp [intOf]; try omega)
      · have t1 : (qc == 0) = false := by rw [beq_eq_false_iff_ne]; exact hc
        have HD2 := Lib.hid (show o ++ dnT L ⟨s, h1, l⟩ j = overT L ⟨s, h1, l⟩ by have := HDJ.out; rwa [if_neg (fun k => hc k.1)] at this)
        clear HDJ hc
        go_wp2_with fail
        generalize w2.alloc _ = w3 at *
        refine wp_region_fam (by kernel_rfl) (by kernel_rfl) ?_
        repeat (go_big_quiet_step (fail))
        first | refine wpQuiet_nil ?_ | (go_big_quiet_want; go_big_quiet_op; done)
        rintro _ ⟨xq, rfl⟩
        have HO4 := Lib.hid (HO3.out.fr xq.fr fun _ _ => id)
        have HBX4 := Lib.hid (HBX3.out.fr xq.fr id)
        have F4 := Lib.hid (F3.out.trans xq.fr)
        clear HO3 HBX3 F3 HB3
        generalize xq.w = w4 at *
        go_wp2_with fail
        go_roundw
        case rel => exact ⟨j, c, A, o, by omega, by go_num, rfl, HO4.out, HN.out, by omega, HD2.out, F4.out, HBX4.out⟩
        case measure => (simp [intOf]; try omega)
end
end Go.Proofs.YtnklbeigikcfkaaGreatDoor
