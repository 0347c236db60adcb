/- addr.split: an address as its groups. -/
import Derived.Test.YtndjijadalkidaaDoorTt
namespace Go.Proofs.YtndjijadalkidaaDoor
open Go.Proofs Go.Shelf Go.RowKit
/-- A group of an address. -/
def grA (a : Ad) (k : Nat) : Nat := if k < 4 then a.hi / 2 ^ (48 - 16 * k) % 65536 else a.lo / 2 ^ (48 - 16 * (k - 4)) % 65536
/-- The groups of an address. -/
def gsA (a : Ad) : List Nat := (List.range 8).map (grA a)
/-- Those that are written once j rounds are done. -/
def spA (a : Ad) (j : Nat) : List Value := (List.range 8).map fun k => .int .u16 ((if k % 4 < j then grA a k else 0 : Nat) : Int)
theorem grA_lt (a : Ad) (k : Nat) : grA a k < 65536 := by unfold grA; split <;> omega
theorem spA_len (a : Ad) (j : Nat) : (spA a j).length = 8 := by simp [spA]
theorem spA_at {a : Ad} {j k : Nat} (hk : k < 8) : (spA a j)[k]? = some (.int .u16 ((if k % 4 < j then grA a k else 0 : Nat) : Int)) := by
  unfold spA
  rw [List.getElem?_map, List.getElem?_range hk]
  rfl
theorem spA_set {a : Ad} {j : Nat} (hj : j < 4) : ((spA a j).set j (.int .u16 (grA a j : Int))).set (4 + j) (.int .u16 (grA a (4 + j) : Int)) = spA a (j + 1) := by
  apply List.ext_getElem?
  intro k
  by_cases hk : k < 8
  · rw [List.getElem?_set, List.getElem?_set, spA_at hk, spA_at hk, List.length_set, spA_len]
    by_cases e : 4 + j = k
    · subst e
      rw [if_pos rfl, if_pos (by omega), if_pos (by omega)]
    · rw [if_neg e]
      by_cases e2 : j = k
      · subst e2
        rw [if_pos rfl, if_pos (by omega), if_pos (by omega)]
      · rw [if_neg e2]
        by_cases h2 : k % 4 < j
        · rw [if_pos h2, if_pos (by omega)]
        · rw [if_neg h2, if_neg (by omega)]
  · rw [List.getElem?_eq_none (by simp [spA]; omega), List.getElem?_eq_none (by simp [spA]; omega)]
theorem spA_all (a : Ad) : spA a 4 = (gsA a).map fun u : Nat => Value.int .u16 (u : Int) := by
  unfold spA gsA
  rw [List.map_map]
  refine List.map_congr_left fun k hk => ?_
  have : k % 4 < 4 := Nat.mod_lt _ (by omega)
  rw [if_pos this]
  rfl
theorem wr16 {x n : Nat} : IntKind.u16.wrap ((x : Int) / 2 ^ n) = ((x / 2 ^ n % 65536 : Nat) : Int) := by
  have e : ((x : Int) / 2 ^ n) = ((x / 2 ^ n : Nat) : Int) := by simp
  rw [e, IntKind.wrap_u16]
  omega
section
variable {w : World}
set_option maxHeartbeats 3200000 in
set_option maxRecDepth 100000 in
theorem split_ (a : Ad) : Calls Tryd.prog 51 #[adV a] w fun e w' => e = .returned (.agg ((gsA a).map fun u : Nat => Value.int .u16 (u : Int)).toArray) ∧ Fr N0 w w' := by
  obtain ⟨s, h, l⟩ := a
  have z8 : (#[.int .u16 0, .int .u16 0, .int .u16 0, .int .u16 0, .int .u16 0, .int .u16 0, .int .u16 0, .int .u16 0] : Array Value) = (spA ⟨s, h, l⟩ 0).toArray := by rfl
  go_enter Tryd.func51, Tryd.ntmps51
  unfold adV
  go_wp2_with fail
  rw [show (World.alloc (World.alloc (w.alloc _) _) _) = (World.alloc (World.alloc (w.alloc (.cells #[.bool s, .int .u64 (h : Int), .int .u64 (l : Int)] 24)) (.cells (spA ⟨s, h, l⟩ 0).toArray 68)) (.cells (spA ⟨s, h, l⟩ 0).toArray 68)) by rw [← z8]]
  have HF1 := Lib.hid (Fr.alloc (Fr.alloc (Fr.alloc (Fr.refl N0 w) (.cells #[.bool s, .int .u64 (h : Int), .int .u64 (l : Int)] 24)) (.cells (spA ⟨s, h, l⟩ 0).toArray 68)) (.cells (spA ⟨s, h, l⟩ 0).toArray 68))
  have HA1 := Lib.hid (((Blk.new w 24 #[.bool s, .int .u64 (h : Int), .int .u64 (l : Int)]).alloc (.cells (spA ⟨s, h, l⟩ 0).toArray 68)).alloc (.cells (spA ⟨s, h, l⟩ 0).toArray 68))
  have HA2 := Lib.hid ((Blk.alloc2 w (.cells #[.bool s, .int .u64 (h : Int), .int .u64 (l : Int)] 24) 68 (spA ⟨s, h, l⟩ 0).toArray).alloc (.cells (spA ⟨s, h, l⟩ 0).toArray 68))
  have HA3 := Lib.hid (Blk.alloc3 w (.cells #[.bool s, .int .u64 (h : Int), .int .u64 (l : Int)] 24) (.cells (spA ⟨s, h, l⟩ 0).toArray 68) 68 (spA ⟨s, h, l⟩ 0).toArray)
  generalize World.alloc (World.alloc (w.alloc _) _) _ = w1 at *
  obtain ⟨g3, hg3⟩ : ∃ g, g = w.heap.size + 2 := ⟨_, rfl⟩
  rw [← hg3] at HA3 ⊢
  obtain ⟨g2, hg2⟩ : ∃ g, g = w.heap.size + 1 := ⟨_, rfl⟩
  rw [← hg2] at HA2 ⊢
  obtain ⟨g1, hg1⟩ : ∃ g, g = w.heap.size := ⟨_, rfl⟩
  rw [← hg1] at HA1 ⊢
  have N13 := Lib.hid (show g1 ≠ g3 by omega)
  have N23 := Lib.hid (show g2 ≠ g3 by omega)
  have HG3 := Lib.hid (show w.heap.size ≤ g3 by omega)
  have HG2 := Lib.hid (show w.heap.size ≤ g2 by omega)
  clear hg1 hg2 hg3 z8
  go_loopw [5] (fun i wr => ∃ j : Nat, j ≤ 4 ∧ i = .int .i64 (j : Int) ∧ Blk wr g3 68 (spA ⟨s, h, l⟩ j).toArray ∧ Fr (fun i => i = g3) w1 wr) (fun i _ => 5 - (intOf i).toNat)
  case atStart => exact ⟨0, by omega, rfl, HA3.out, Fr.refl _ _⟩
  case round =>
    obtain ⟨j, hj, rfl, hb, hF⟩ := hrel
    have B := Lib.hid hb
    have G := Lib.hid hF
    have GW := Lib.hid (HF1.out.step hF fun i hi => .inr (hi ▸ HG3.out))
    have B1 := Lib.hid (HA1.out.fr hF N13.out)
    have B2 := Lib.hid (HA2.out.fr hF N23.out)
    obtain ⟨z0, z1, z2⟩ := B1.out.c3
    clear hb hF
    by_cases hj4 : j < 4
    · have hjI : (j : Int) < 4 := by omega
      have fz1 := B.out.frozen j
      have fz2 := B.out.frozen (4 + j)
      have y1 := B.out.cell j
      rw [List.getElem?_toArray, spA_at (by omega)] at y1
      have y2 := B.out.cell (4 + j)
      rw [List.getElem?_toArray, spA_at (by omega)] at y2
      have n13 := N13.out
      have n31 := N13.out.symm
      have n4 : 4 + j ≠ j := by omega
      go_wp2_with fail
      refine ⟨⟨j + 1, by omega, by go_num, ?_, (G.out.setCell (.inl rfl) _).setCell (.inl rfl) _⟩, by simp [RowKit.intOf]; omega⟩
      have e1 : grA ⟨s, h, l⟩ j = h / 2 ^ (48 - 16 * j) % 65536 := by simp only [grA, if_pos hj4]
      have e2 : grA ⟨s, h, l⟩ (4 + j) = l / 2 ^ (48 - 16 * j) % 65536 := by
        simp only [grA, if_neg (show ¬ (4 + j < 4) by omega), show 4 + j - 4 = j by omega]
      have := (B.out.set_ j (.int .u16 (grA ⟨s, h, l⟩ j : Int))).set_ (4 + j) (.int .u16 (grA ⟨s, h, l⟩ (4 + j) : Int))
      rw [List.setIfInBounds_toArray, List.setIfInBounds_toArray, spA_set hj4, e1, e2] at this
      rw [wr16, wr16]
      exact this
    · obtain rfl : j = 4 := by omega
      obtain ⟨cs, hcs⟩ : ∃ cs, cs = (spA ⟨s, h, l⟩ 4).toArray := ⟨_, rfl⟩
      have HCS := Lib.hid hcs
      have hsz : cs.size = 8 := by rw [hcs]; simp [spA_len]
      have hon : cs.all (·.oneCell') = true := by rw [hcs]; simp [spA, Value.oneCell']
      have hsz0 : (spA ⟨s, h, l⟩ 0).toArray.size = 8 := by simp [spA_len]
      rw [← hcs] at B
      have HS := Lib.hid (show (Tryd.prog.info? 68).map (·.size) = some cs.size by rw [hsz]; kernel_rfl)
      have HO := Lib.hid (show (spA ⟨s, h, l⟩ 0).toArray.size = cs.size by rw [hsz, hsz0])
      have HN := Lib.hid hon
      clear hcs hsz hsz0 hon hj4 hj z0 z1 z2
      go_wp2_with (first
        | (refine wpList_load_row rfl 68 (.tmp 3) rfl g3 rfl 68 _ (0, 0) _ B.out Tryd.underlying68 rfl HS.out ?_)
        | (refine wpList_store_row rfl 68 _ _ rfl g2 _ rfl rfl _ _ B2.out HS.out HO.out HN.out ?_))
      refine bodyPost_ret_by (results_cell_row rfl _ _ g2 68 cs (0, 0) _ rfl (B2.out.row _) Tryd.underlying68 rfl HS.out) rfl ⟨?_, Fr.setRow GW.out (.inr HG2.out) _⟩
      rw [HCS.out, spA_all]
end
end Go.Proofs.YtndjijadalkidaaDoor
