/- addr.joined. -/
import Derived.Test.YtndjijadalkidaaDoorRw
namespace Go.Proofs.YtndjijadalkidaaDoor
open Go.Proofs Go.Shelf Go.RowKit
def jn (l : List Nat) : Nat := l.foldl (fun a g => a * 65536 + g) 0
theorem jn_snoc (l : List Nat) (u : Nat) : jn (l ++ [u]) = jn l * 65536 + u := by simp [jn]
theorem jn_lt : ∀ (n : Nat) (l : List Nat), l.length = n → (∀ u ∈ l, u < 65536) → jn l < 65536 ^ n
  | 0, l, hl, _ => by
    have : l = [] := List.length_eq_zero_iff.1 hl
    subst this
    simp [jn]
  | n + 1, l, hl, h => by
    rcases List.eq_nil_or_concat l with rfl | ⟨r, u, rfl⟩
    · simp at hl
    · rw [List.concat_eq_append] at hl h ⊢
      rw [jn_snoc]
      have h1 := jn_lt n r (by simpa using hl) fun u hu => h u (by simp [hu])
      have h2 := h u (by simp)
      rw [Nat.pow_succ]
      omega
theorem or_group {x u : Nat} (hx : x < 281474976710656) (hu : u < 65536) : bits .or .u64 ((x : Int) * 65536) (u : Int) = ((x * 65536 + u : Nat) : Int) := by
  rw [show ((x : Int) * 65536) = ((x * 65536 : Nat) : Int) by omega, bits_or_u64_nat _ _ (by omega) (by omega)]
  congr 1
  rw [Nat.mul_comm, show (65536 : Nat) = 2 ^ 16 from rfl, Nat.two_pow_add_eq_or_of_lt (show u < 2 ^ 16 from hu)]
section
variable {w : World}
set_option maxHeartbeats 6400000 in
set_option maxRecDepth 100000 in
theorem joined_ (gs : List Nat) (hl : gs.length = 8) (hlt : ∀ u ∈ gs, u < 65536) : Calls Tryd.prog 68 #[.agg (gs.map u16v).toArray] w fun e w' => e = .returned (adV ⟨true, jn (gs.take 4), jn (gs.drop 4)⟩) ∧ Fr N0 w w' := by
  have HL := Lib.hid hl
  have HLT := Lib.hid hlt
  clear hl hlt
  go_enter Tryd.func68, Tryd.ntmps68
  go_wp2_with fail
  have HF1 := Lib.hid (Fr.alloc (Fr.alloc (Fr.alloc (Fr.refl N0 w) (.cells (gs.map u16v).toArray 68)) (.cells #[.bool false, .int .u64 0, .int .u64 0] 24)) (.cells #[.bool true, .int .u64 0, .int .u64 0] 24))
  have HA1 := Lib.hid (((Blk.new w 68 (gs.map u16v).toArray).alloc (.cells #[.bool false, .int .u64 0, .int .u64 0] 24)).alloc (.cells #[.bool true, .int .u64 0, .int .u64 0] 24))
  have HA2 := Lib.hid ((Blk.alloc2 w (.cells (gs.map u16v).toArray 68) 24 #[.bool false, .int .u64 0, .int .u64 0]).alloc (.cells #[.bool true, .int .u64 0, .int .u64 0] 24))
  have HA3 := Lib.hid (Blk.alloc3 w (.cells (gs.map u16v).toArray 68) (.cells #[.bool false, .int .u64 0, .int .u64 0] 24) 24 #[.bool true, .int .u64 0, .int .u64 0])
  generalize World.alloc (World.alloc (w.alloc _) _) _ = w1 at *
  obtain ⟨g3, hg3⟩ : ∃ g, g = w.heap.size + 2 := ⟨_, rfl⟩
  rw [← hg3] at HA3 ⊢
  obtain ⟨g2, hg2⟩ : ∃ g, g = w.heap.size + 1 := ⟨_, rfl⟩
  rw [← hg2] at HA2 ⊢
  obtain ⟨g1, hg1⟩ : ∃ g, g = w.heap.size := ⟨_, rfl⟩
  rw [← hg1] at HA1 ⊢
  have N13 := Lib.hid (show g1 ≠ g3 by omega)
  have N23 := Lib.hid (show g2 ≠ g3 by omega)
  have HG3 := Lib.hid (show w.heap.size ≤ g3 by omega)
  have HG2 := Lib.hid (show w.heap.size ≤ g2 by omega)
  clear hg1 hg2 hg3
  go_loopw [6] (fun i wr => ∃ j : Nat, j ≤ 4 ∧ i = .int .i64 (j : Int) ∧ Blk wr g3 24 #[.bool true, .int .u64 (jn (gs.take j) : Int), .int .u64 (jn ((gs.drop 4).take j) : Int)] ∧ Fr (fun i => i = g3) w1 wr) (fun i _ => 5 - (RowKit.intOf i).toNat)
  case atStart => exact ⟨0, by omega, rfl, HA3.out, Fr.refl _ _⟩
  case round =>
    obtain ⟨j, hj, rfl, hb3, hF⟩ := hrel
    have B3 := Lib.hid hb3
    have G := Lib.hid hF
    have B1 := Lib.hid (HA1.out.fr hF N13.out)
    have B2 := Lib.hid (HA2.out.fr hF N23.out)
    clear hb3 hF
    by_cases hj4 : j < 4
    · have hjI : (j : Int) < 4 := by omega
      obtain ⟨a, ha⟩ : ∃ a, gs[j]? = some a := ⟨_, List.getElem?_eq_getElem (by rw [HL.out]; omega)⟩
      obtain ⟨b, hb⟩ : ∃ b, gs[4 + j]? = some b := ⟨_, List.getElem?_eq_getElem (by rw [HL.out]; omega)⟩
      have ha16 := HLT.out a (List.mem_of_getElem? ha)
      have hb16 := HLT.out b (List.mem_of_getElem? hb)
      have x0 := B1.out.cell j
      rw [List.getElem?_toArray, List.getElem?_map, ha] at x0
      replace x0 : wr.cell? ⟨g1, j, none⟩ = some (.int .u16 (a : Int)) := x0
      have y0 := B1.out.cell (4 + j)
      rw [List.getElem?_toArray, List.getElem?_map, hb] at y0
      replace y0 : wr.cell? ⟨g1, 4 + j, none⟩ = some (.int .u16 (b : Int)) := y0
      have t1 : gs.take (j + 1) = gs.take j ++ [a] := by rw [List.take_add_one, ha]; rfl
      have t2 : (gs.drop 4).take (j + 1) = (gs.drop 4).take j ++ [b] := by rw [List.take_add_one, List.getElem?_drop, hb]; rfl
      have l1 := jn_lt j (gs.take j) (by rw [List.length_take, HL.out]; omega) (fun u hu => HLT.out u (List.mem_of_mem_take hu))
      have l2 := jn_lt j ((gs.drop 4).take j) (by rw [List.length_take, List.length_drop, HL.out]; omega) (fun u hu => HLT.out u (List.mem_of_mem_drop (List.mem_of_mem_take hu)))
      have hp : 65536 ^ j ≤ 65536 ^ 3 := Nat.pow_le_pow_right (by omega) (by omega)
      have HE1 := Lib.hid (show jn (gs.take (j + 1)) = jn (gs.take j) * 65536 + a by rw [t1, jn_snoc])
      have HE2 := Lib.hid (show jn ((gs.drop 4).take (j + 1)) = jn ((gs.drop 4).take j) * 65536 + b by rw [t2, jn_snoc])
      obtain ⟨X, hX⟩ : ∃ X, X = jn (gs.take j) := ⟨_, rfl⟩
      obtain ⟨Y, hY⟩ : ∃ Y, Y = jn ((gs.drop 4).take j) := ⟨_, rfl⟩
      rw [← hX] at B3 HE1 l1
      rw [← hY] at B3 HE2 l2
      have hX3 : X < 281474976710656 := by have : (65536 : Nat) ^ 3 = 281474976710656 := by decide
                                           omega
      have hY3 : Y < 281474976710656 := by have : (65536 : Nat) ^ 3 = 281474976710656 := by decide
                                           omega
      have HO1 := Lib.hid (or_group hX3 ha16)
      have HO2 := Lib.hid (or_group hY3 hb16)
      obtain ⟨z0, z1, z2⟩ := B3.out.c3
      have fz1 := B3.out.frozen 1
      have fz2 := B3.out.frozen 2
      clear ha t1 t2 l1 l2 hp hX hY
      go_wp2_with fail
      go_region
      all_goals go_wp2_with fail
      rw [HO1.out]
      have B3' := Lib.hid ((B3.out.set_ 1 (.int .u64 ((X * 65536 + a : Nat) : Int))).drew)
      have B1' := Lib.hid ((B1.out.far (p := ⟨g3, 1, none⟩) N13.out (.int .u64 ((X * 65536 + a : Nat) : Int))).drew)
      have G' := Lib.hid ((G.out.setCell (p := ⟨g3, 1, none⟩) (.inl rfl) (.int .u64 ((X * 65536 + a : Nat) : Int))).drew)
      clear z0 z1 z2 fz1 fz2 x0 y0 B1 B3 G
      generalize World.drew (wr.setCell _ _) = ws at *
      have y0 := B1'.out.cell (4 + j)
      rw [List.getElem?_toArray, List.getElem?_map, hb] at y0
      replace y0 : ws.cell? ⟨g1, 4 + j, none⟩ = some (.int .u16 (b : Int)) := y0
      obtain ⟨z0, z1, z2⟩ := (show Blk ws g3 24 #[.bool true, .int .u64 ((X * 65536 + a : Nat) : Int), .int .u64 (Y : Int)] from B3'.out).c3
      have fz2 := B3'.out.frozen 2
      clear hb
      go_region
      all_goals go_wp2_with fail
      all_goals refine ⟨⟨j + 1, by omega, by go_num, ?_, ?_⟩, by simp [RowKit.intOf]; omega⟩
      · rw [HE1.out, HE2.out, HO2.out]
        exact (B3'.out.set_ 2 _).drew
      · exact (G'.out.setCell (.inl rfl) _).drew
    · obtain rfl : j = 4 := by omega
      have BF : Hid (Blk wr g3 24 #[.bool true, .int .u64 (jn (gs.take 4) : Int), .int .u64 (jn (gs.drop 4) : Int)]) := by
        have := B3.out
        rw [List.take_of_length_le (l := gs.drop 4) (by rw [List.length_drop, HL.out]; omega)] at this
        exact Lib.hid this
      clear B3
      obtain ⟨z0, z1, z2⟩ := BF.out.c3
      go_wp2_with (refine wpList_store_row rfl 24 _ _ rfl g2 _ rfl rfl _ _ B2.out rfl rfl (by simp [Value.oneCell']) ?_)
      refine ret_cell rfl rfl (B2.out.row _) Tryd.underlying24 rfl ⟨rfl, Fr.setRow (HF1.out.step G.out fun i hi => .inr (hi ▸ HG3.out)) (.inr HG2.out) _⟩
end
end Go.Proofs.YtndjijadalkidaaDoor
