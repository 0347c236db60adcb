/- addr.six of any text. -/
import Derived.Test.YtndjijadalkidaaDoorJn
import Derived.Test.YtndjijadalkidaaDoorPp
import Derived.Laws.CopyOwn
namespace Go.Proofs.YtndjijadalkidaaDoor
open Go.Proofs Go.Shelf Go.RowKit
/-- The groups of an address out of those ahead and those behind. -/
def grp (x y : List Nat) : List Nat := x ++ (List.replicate (8 - (x.length + y.length)) 0 ++ y)
def adG (gs : List Nat) : Ad := ⟨true, jn (gs.take 4), jn (gs.drop 4)⟩
def sixR (X Y : Option (List Nat)) (short : Bool) : Option Ad := match X, Y with
  | some x, some y => if (short = true ∧ 7 < x.length + y.length) ∨ (short = false ∧ x.length + y.length ≠ 8) then none else some (adG (grp x y))
  | _, _ => none
theorem add_at (b o j : Nat) : (⟨b, o, none⟩ : Addr).add j = ⟨b, o + j, none⟩ := by
  unfold Addr.add
  by_cases h0 : j = 0
  · subst h0; simp
  · rw [if_neg h0]
theorem splice_grp (X Y : List Nat) (h : X.length + Y.length ≤ 8) : splice (splice ((List.replicate 8 0).map u16v) 0 (X.map u16v)) (8 - Y.length) (Y.map u16v) = (grp X Y).map u16v := by
  have e1 : splice ((List.replicate 8 0).map u16v) 0 (X.map u16v) = (X ++ List.replicate (8 - X.length) 0).map u16v := by
    unfold splice
    rw [List.take_zero, List.nil_append, List.length_map, Nat.zero_add, List.map_append, ← List.map_drop, List.drop_replicate]
  rw [e1]
  unfold splice grp
  rw [← List.map_take, ← List.map_drop, ← List.map_append, ← List.map_append, List.length_map]
  congr 1
  rw [show 8 - Y.length + Y.length = 8 by omega, List.drop_of_length_le (by simp; omega), List.append_nil, List.take_append, List.take_of_length_le (by omega), List.take_replicate, List.append_assoc]
  congr 2
  congr 1
  omega
section
variable {w : World}
set_option maxHeartbeats 6400000 in
set_option maxRecDepth 100000 in
theorem six_ (s ax by_ : ByteArray) (short : Bool) (X Y : Option (List Nat)) (m : Int) (hm : Mx m w) (hsy : Sy w) (hX16 : ∀ x, X = some x → ∀ u ∈ x, u < 65536) (hY16 : ∀ y, Y = some y → ∀ u ∈ y, u < 65536)
    (hXn : (X.getD []).length ≤ 70368744177664) (hYn : (Y.getD []).length ≤ 70368744177664)
    (hcut : ∀ W : World, Mx m W → Calls Tryd.prog 40 #[.string s, .string ⟨#[58, 58]⟩] W fun e w' => e = .returned (.tuple #[.string ax, .string by_, .bool short]) ∧ Fr N0 W w')
    (hrx : ∀ W : World, Mx m W → Sy W → Calls Tryd.prog 67 #[.string ax] W fun e w' => ∃ v, e = .returned (.tuple #[v, .bool X.isSome]) ∧ Bu W w' v (X.getD []))
    (hry : ∀ W : World, Mx m W → Sy W → Calls Tryd.prog 67 #[.string by_] W fun e w' => ∃ v, e = .returned (.tuple #[v, .bool Y.isSome]) ∧ Bu W w' v (Y.getD [])) :
    Calls Tryd.prog 57 #[.string s] w fun e w' => e = .returned (.tuple #[adV ((sixR X Y short).getD ⟨false, 0, 0⟩), .bool (sixR X Y short).isSome]) ∧ Fr N0 w w' := by
  obtain ⟨res, hres⟩ : ∃ res, res = sixR X Y short := ⟨_, rfl⟩
  rw [← hres]
  have HR := Lib.hid hres
  have HX16 := Lib.hid hX16
  have HY16 := Lib.hid hY16
  clear hres hX16 hY16
  obtain ⟨bx, hbx⟩ : ∃ b, b = X.isSome := ⟨_, rfl⟩
  obtain ⟨bY, hby⟩ : ∃ b, b = Y.isSome := ⟨_, rfl⟩
  obtain ⟨xl, hxl⟩ : ∃ l, l = X.getD [] := ⟨_, rfl⟩
  obtain ⟨yl, hyl⟩ : ∃ l, l = Y.getD [] := ⟨_, rfl⟩
  rw [← hbx, ← hxl] at hrx
  rw [← hby, ← hyl] at hry
  rw [← hxl] at hXn
  rw [← hyl] at hYn
  have HBX := Lib.hid hbx
  have HBY := Lib.hid hby
  have HXL := Lib.hid hxl
  have HYL := Lib.hid hyl
  clear hbx hby hxl hyl
  go_enter Tryd.func57, Tryd.ntmps57
  go_wp2_with fail
  have HA1 := Lib.hid (Blk.new w 24 #[Value.bool false, Value.int .u64 0, Value.int .u64 0])
  have HF1 := Lib.hid (Fr.alloc (Fr.refl N0 w) (.cells #[Value.bool false, Value.int .u64 0, Value.int .u64 0] 24))
  generalize w.alloc _ = w1 at *
  obtain ⟨g1, hg1⟩ : ∃ g1, g1 = w.heap.size := ⟨_, rfl⟩
  rw [← hg1] at HA1 ⊢
  have HG1 : Hid (w.heap.size ≤ g1) := Lib.hid (by omega)
  clear hg1
  have HZ1 : Hid (∀ W, Fr N0 w1 W → Blk W g1 24 #[Value.bool false, Value.int .u64 0, Value.int .u64 0]) := Lib.hid fun W hf => HA1.out.fr hf id
  have F := Lib.hid (Fr.refl N0 w1)
  refine (hcut _ (hm.fr HF1.out)).mono ?_
  rintro e w2 ⟨rfl, hf2⟩
  have F2 := Lib.hid hf2
  go_wp2_with fail
  refine (hrx _ (hm.fr (HF1.out.trans hf2)) (hsy.fr (HF1.out.trans hf2))).mono ?_
  rintro e w3 ⟨vx, rfl, Ax, cx, rfl, hOx, hgx, hf3⟩
  have F3 := Lib.hid (F2.out.trans hf3)
  have OX := Lib.hid hOx
  clear hOx hgx hf2 hf3 F2
  go_wp2_with fail
  refine (hry _ (hm.fr (HF1.out.trans F3.out)) (hsy.fr (HF1.out.trans F3.out))).mono ?_
  rintro e w4 ⟨vy, rfl, Ay, cy, rfl, hOy, hgy, hf4⟩
  have F4 := Lib.hid (F3.out.trans hf4)
  have OY := Lib.hid hOy
  have OX4 := Lib.hid (OX.out.fr hf4 (fun _ _ h => h))
  have HMW := Lib.hid hm
  clear hOy hgy hf4 OX F3 hcut hrx hry hm hsy
  obtain ⟨p, hp⟩ : ∃ p, p = xl.length := ⟨_, rfl⟩
  obtain ⟨q, hq⟩ : ∃ q, q = yl.length := ⟨_, rfl⟩
  rw [← hp] at OX4 hXn ⊢
  rw [← hq] at OY hYn ⊢
  have HP := Lib.hid hp
  have HQ := Lib.hid hq
  clear hp hq F HA1
  have hcase : (bx = false ∧ res = none) ∨ (bx = true ∧ bY = false ∧ res = none) ∨ (bx = true ∧ bY = true ∧ short = true ∧ 7 < p + q ∧ res = none) ∨ (bx = true ∧ bY = true ∧ short = false ∧ (p + q < 8 ∨ 8 < p + q) ∧ res = none)
      ∨ (bx = true ∧ bY = true ∧ short = true ∧ p + q ≤ 7 ∧ res = some (adG (grp xl yl))) ∨ (bx = true ∧ bY = true ∧ short = false ∧ p + q = 8 ∧ res = some (adG (grp xl yl))) := by
    have h1 := HR.out
    have h2 := HBX.out
    have h3 := HBY.out
    have h4 := HXL.out
    have h5 := HYL.out
    have h6 := HP.out
    have h7 := HQ.out
    unfold sixR at h1
    cases X with
    | none => exact .inl ⟨h2, h1⟩
    | some x =>
      cases Y with
      | none => exact .inr (.inl ⟨h2, h3, h1⟩)
      | some y =>
        simp only [Option.getD_some] at h4 h5
        subst h4 h5
        simp only at h1
        rw [← h6, ← h7] at h1
        cases short with
        | true =>
          by_cases h : 7 < p + q
          · exact .inr (.inr (.inl ⟨h2, h3, rfl, h, by rw [h1, if_pos (.inl ⟨rfl, h⟩)]⟩))
          · exact .inr (.inr (.inr (.inr (.inl ⟨h2, h3, rfl, by omega, by rw [h1, if_neg (by simp; omega)]⟩))))
        | false =>
          by_cases h : p + q = 8
          · exact .inr (.inr (.inr (.inr (.inr ⟨h2, h3, rfl, h, by rw [h1, if_neg (by simp; omega)]⟩))))
          · exact .inr (.inr (.inr (.inl ⟨h2, h3, rfl, by omega, by rw [h1, if_pos (.inr ⟨rfl, h⟩)]⟩)))
  have B4 := Lib.hid (HZ1.out _ F4.out)
  have HFR := Lib.hid (HF1.out.trans F4.out)
  clear HZ1 F4 HR HBX HBY
  rcases hcase with ⟨rfl, he⟩ | ⟨rfl, rfl, he⟩ | ⟨rfl, rfl, rfl, hpq, he⟩ | ⟨rfl, rfl, rfl, hpq | hpq, he⟩ | ⟨rfl, rfl, rfl, hpq, he⟩ | ⟨rfl, rfl, rfl, hpq, he⟩
  iterate 5
    next =>
      have HE := Lib.hid he
      clear he
      go_wp2_with (refine wpList_store_row rfl 24 _ _ rfl g1 _ rfl rfl _ _ B4.out rfl rfl (by simp [Value.oneCell']) ?_)
      refine ret_cell2 rfl rfl (B4.out.row _) Tryd.underlying24 rfl ⟨?_, Fr.setRow HFR.out (.inr HG1.out) _⟩
      rw [HE.out]
      rfl
  all_goals
    have HE := Lib.hid he
    clear he
    have hq8 : q ≤ 8 := by omega
    have hp8 : p ≤ 8 := by omega
    have hcx : ∀ W : World, Fr N0 w4 W → ∀ (j : Nat) (v : Value), (xl.map u16v)[j]? = some v → ∀ ad, Ax = some ad → W.cell? (ad.add j) = some v := fun W hW j v hj ad hA => by
      have O := OX4.out.fr hW (fun _ _ h => h)
      have hjl : j < p := by rw [HP.out]; have := (List.getElem?_eq_some_iff.1 hj).1; simpa using this
      obtain ⟨g', hg'⟩ := O.some_ (by omega)
      rw [hg'] at hA O
      cases hA
      rw [add_at, Nat.zero_add]
      exact (O.cell j (by omega)).trans hj
    have hcy : ∀ W : World, Fr N0 w4 W → ∀ (j : Nat) (v : Value), (yl.map u16v)[j]? = some v → ∀ ad, Ay = some ad → W.cell? (ad.add j) = some v := fun W hW j v hj ad hA => by
      have O := OY.out.fr hW (fun _ _ h => h)
      have hjl : j < q := by rw [HQ.out]; have := (List.getElem?_eq_some_iff.1 hj).1; simpa using this
      obtain ⟨g', hg'⟩ := O.some_ (by omega)
      rw [hg'] at hA O
      cases hA
      rw [add_at, Nat.zero_add]
      exact (O.cell j (by omega)).trans hj
    have hax : 0 < p → ∃ ad, Ax = some ad := fun h => by obtain ⟨g', hg'⟩ := OX4.out.some_ h; exact ⟨_, hg'⟩
    have hay : 0 < q → ∃ ad, Ay = some ad := fun h => by obtain ⟨g', hg'⟩ := OY.out.some_ h; exact ⟨_, hg'⟩
    have hnew : (w4.alloc (.cells #[.int .u16 0, .int .u16 0, .int .u16 0, .int .u16 0, .int .u16 0, .int .u16 0, .int .u16 0, .int .u16 0] 68)).heap[w4.heap.size]? = some (.cells ((List.replicate 8 0).map u16v).toArray 68 (0, 0)) := Blk.new w4 _ _
    have HC := Lib.hid hcx
    have HD := Lib.hid hcy
    have HAX := Lib.hid hax
    have HAY := Lib.hid hay
    have HNW := Lib.hid hnew
    have hp8' : Nat.min p 8 = p := Nat.min_eq_left hp8
    have HM8 := Lib.hid hp8'
    clear hcx hcy hax hay hnew hp8'
    go_wp2_with (refine wpList_copy_splice rfl (.tmp 56) (.tmp 57) 73 73 rfl 66 Tryd.underlying73 (by kernel_rfl) (some ⟨w4.heap.size, 0, none⟩) Ax 8 8 p cx rfl rfl w4.heap.size 0 ((List.replicate 8 0).map u16v) 68 HNW.out (xl.map u16v) (by rw [List.length_map, ← HP.out]; exact HM8.out.symm) (fun h => ⟨rfl, by
        have h' : 0 < p := by rw [List.length_map, ← HP.out] at h; exact h
        obtain ⟨ad, had⟩ := HAX.out h'
        exact ⟨ad, had, fun j v hj => HC.out _ ((Fr.refl _ _).alloc _) j v hj ad had⟩⟩) (by rw [List.length_map, List.length_map, List.length_replicate, ← HP.out]; omega) (by intro v hv; obtain ⟨x, _, rfl⟩ := List.mem_map.1 hv; rfl) w4.heap.size _ (Below.refl _ _) (Nat.le_refl _) ?_)
    intro w5 h5 hb5
    have B12 : Hid (Blk w5 w4.heap.size 68 (splice ((List.replicate 8 0).map u16v) 0 (xl.map u16v)).toArray) := Lib.hid h5.out
    have F5 := Lib.hid (show Fr N0 w4 w5 from Fr.of_below (((Below.refl w4.heap.size w4).alloc (Nat.le_refl _) _).trans hb5))
    have B15 := Lib.hid (B4.out.fr F5.out id)
    have hg12 : w4.heap.size < w5.heap.size := B12.out.lt
    have HNE := Lib.hid (show g1 ≠ w4.heap.size from by have := B4.out.lt; omega)
    have HG12 := Lib.hid HFR.out.size
    have HB5 := Lib.hid (((Below.refl w4.heap.size w4).alloc (Nat.le_refl _) _).trans hb5)
    clear h5 hb5
    generalize hg : w4.heap.size = g at *
    have HGE := Lib.hid hg
    clear hg
    have hgl : (grp xl yl).length = 8 := by unfold grp; rw [List.length_append, List.length_append, List.length_replicate, ← HP.out, ← HQ.out]; omega
    have hglt : ∀ u ∈ grp xl yl, u < 65536 := fun u hu => by
      unfold grp at hu
      rcases List.mem_append.1 hu with h | h
      · rw [HXL.out] at h
        cases hXx : X with
        | none => rw [hXx] at h; cases h
        | some x => rw [hXx] at h; exact HX16.out x hXx u h
      · rcases List.mem_append.1 h with h | h
        · rw [List.eq_of_mem_replicate h]; omega
        · rw [HYL.out] at h
          cases hYy : Y with
          | none => rw [hYy] at h; cases h
          | some y => rw [hYy] at h; exact HY16.out y hYy u h
    have kj := fun W => joined_ (w := W) (grp xl yl) hgl hglt
    have HGL := Lib.hid (show ((grp xl yl).map u16v).toArray.size = 8 by simp [hgl])
    have HSP := Lib.hid (splice_grp xl yl (by rw [← HP.out, ← HQ.out]; omega))
    clear hgl hglt
    unfold adG at HE
    by_cases hq0 : q = 0
    · subst hq0
      have HY0 : yl = [] := List.length_eq_zero_iff.1 HQ.out.symm
      have B6 : Hid (Blk w5 g 68 ((grp xl yl).map u16v).toArray) := by
        have h := HSP.out
        rw [HY0] at h ⊢
        rw [← h]
        have e : splice (splice ((List.replicate 8 0).map u16v) 0 (xl.map u16v)) (8 - ([] : List Nat).length) (([] : List Nat).map u16v) = splice ((List.replicate 8 0).map u16v) 0 (xl.map u16v) := by
          unfold splice
          simp
        rw [e]
        exact B12
      clear HSP HY0
      go_wp2_with (first | refine wpList_load_row rfl 68 (.tmp 12) rfl g rfl 68 _ (0, 0) _ B6.out Tryd.underlying68 rfl (by rw [HGL.out]; kernel_rfl) ?_ | refine wpList_copy_nothing rfl (.tmp 62) (.tmp 63) 73 73 rfl 66 Tryd.underlying73 (by kernel_rfl) (some ⟨g, 0, none⟩) Ay 0 0 0 cy rfl rfl rfl ?_)
      go_wp2_with (first
        | (refine wpList_load_row rfl 68 (.tmp 12) rfl g rfl 68 _ (0, 0) _ B6.out Tryd.underlying68 rfl (by rw [HGL.out]; kernel_rfl) ?_)
        | (go_at_call 68; refine (kj _).mono ?_; rintro e w7 ⟨rfl, hf7⟩; have F7 := Lib.hid (F5.out.trans hf7))
        | (refine wpList_store_row rfl 24 _ _ rfl g1 _ rfl rfl _ _ (B4.out.fr F7.out id) rfl rfl (by simp [Value.oneCell']) ?_))
      refine ret_cell2 rfl rfl ((B4.out.fr F7.out id).row _) Tryd.underlying24 rfl ⟨?_, Fr.setRow (HFR.out.trans F7.out) (.inr HG1.out) _⟩
      rw [HE.out]
      rfl
    · have hq1 : 1 ≤ q := by omega
      have hsl : ∀ W, (Instr.sliceAt 68 (.pointer (some ⟨g, 0, none⟩)) (some (.int .i64 (8 - (q : Int)))) none none).run Tryd.prog W = .ok (.slice (some ⟨g, 8 - q, none⟩) q q) W := fun W => by
        have hal : Tryd.prog.arrayLen 68 = 8 := by simp [Program.arrayLen, Tryd.underlying68]
        rw [run_sliceAt_array_l W 68 ⟨g, 0, none⟩ (by simp [Program.arrayLen, Program.elem, Tryd.underlying68]) .i64 (8 - (q : Int)) (by omega) (by rw [hal]; omega), hal]
        have e8 : (8 - (q : Int)).toNat = 8 - q := by omega
        have e9 : 8 - (8 - q) = q := by omega
        have z66 := Tryd.sizeOf66
        have hel : Tryd.prog.elem 68 = 66 := by simp [Program.elem, Tryd.underlying68]
        rw [hel, z66, e8]
        simp only [Result.andThen_ok, slicedAt]
        simp [e9, add_at]
        omega
      have HSL := Lib.hid (splice_grp xl yl (by rw [← HP.out, ← HQ.out]; omega))
      have HCUR := Lib.hid (show (splice ((List.replicate 8 0).map u16v) 0 (xl.map u16v)).length = 8 by
        rw [length_splice _ _ _ (by rw [List.length_map, List.length_map, List.length_replicate, ← HP.out]; omega), List.length_map, List.length_replicate])
      go_wp2_with (refine wpList_copy_splice rfl (.tmp 62) (.tmp 63) 73 73 rfl 66 Tryd.underlying73 (by kernel_rfl) (some ⟨g, 8 - q, none⟩) Ay q q q cy rfl rfl g (8 - q) (splice ((List.replicate 8 0).map u16v) 0 (xl.map u16v)) 68 B12.out (yl.map u16v) (by rw [List.length_map, ← HQ.out]; exact (Nat.min_self q).symm) (fun h => ⟨rfl, by
        obtain ⟨ad, had⟩ := HAY.out hq1
        exact ⟨ad, had, fun j v hj => HD.out _ F5.out j v hj ad had⟩⟩) (by rw [HCUR.out, List.length_map, ← HQ.out]; omega) (by intro v hv; obtain ⟨x, _, rfl⟩ := List.mem_map.1 hv; rfl) g _ (Below.refl _ _) (Nat.le_refl _) ?_)
      intro w6 h6 hb6
      have B6 : Hid (Blk w6 g 68 ((grp xl yl).map u16v).toArray) := by
        rw [← HSL.out, ← HQ.out]
        exact Lib.hid h6.out
      have F6 := Lib.hid (show Fr N0 w4 w6 from Fr.of_below (by rw [HGE.out]; exact HB5.out.trans hb6))
      clear h6 hb6 hsl
      go_wp2_with (first
        | (refine wpList_load_row rfl 68 (.tmp 12) rfl g rfl 68 _ (0, 0) _ B6.out Tryd.underlying68 rfl (by rw [HGL.out]; kernel_rfl) ?_)
        | (go_at_call 68; refine (kj _).mono ?_; rintro e w7 ⟨rfl, hf7⟩; have F7 := Lib.hid (F6.out.trans hf7))
        | (refine wpList_store_row rfl 24 _ _ rfl g1 _ rfl rfl _ _ (B4.out.fr F7.out id) rfl rfl (by simp [Value.oneCell']) ?_))
      refine ret_cell2 rfl rfl ((B4.out.fr F7.out id).row _) Tryd.underlying24 rfl ⟨?_, Fr.setRow (HFR.out.trans F7.out) (.inr HG1.out) _⟩
      rw [HE.out]
      rfl
end
end Go.Proofs.YtndjijadalkidaaDoor
