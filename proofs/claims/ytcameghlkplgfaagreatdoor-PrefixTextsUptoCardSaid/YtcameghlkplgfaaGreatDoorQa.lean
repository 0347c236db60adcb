/- addr.Parse of four plain numbers. prefix.Parse, where the text has a slash and the address is one. strconv.FormatUint at base 10: the decimal numeral, for every number. strconv.FormatUint at base 16, for numbers below 65536. addr.Print of four bytes. addr.texts: groups as a text. addr.split: an address as its groups. addr.gap: the longest row of groups of 0. addr.Print of sixteen bytes. The document's Digits, Groups, zeros. The document's Groups and zeros. -/
import Derived.Test.YtcameghlkplgfaaGreatDoorFo
import Derived.Lib.AppendIntMem
import Derived.Shelf.Strconv.Itoa3
import Derived.Laws.Slices
import Derived.Test.YtcameghlkplgfaaGreatDoorOwn
import Derived.ChangeKeysEq
import Derived.Test.YtcameghlkplgfaaGreatDoorCr
import Derived.Deep.RegionLaw
namespace Go.Proofs.YtcameghlkplgfaaGreatDoor
open Go.Proofs Go.Shelf Go.RowKit
section
variable {w : World}
set_option maxHeartbeats 1600000 in
set_option maxRecDepth 100000 in
theorem parse4 (s : ByteArray) (m : Int) (hm : w.cell? ⟨0, 0, none⟩ = some (.int .i64 m)) (hs : s.size < 4294967281) (ts : List ByteArray) (us : List Nat) (hts : Lib.splitB ⟨#[46]⟩ 0 (Lib.countB s ⟨#[46]⟩) s = ts) (hn : ts.length = 4) (hu : us.length = 4)
    (hd : ∀ (j : Nat) t u, ts[j]? = some t → us[j]? = some u → Dec t u) : Calls Tryz.prog 19 #[.string s] w fun e w' => e = .returned (.tuple #[adV ⟨false, 0, acc us⟩, .int .i64 0]) ∧ Fr N0 w w' := by
  have k56 := fun (W : World) (hW : W.cell? ⟨0, 0, none⟩ = some (.int .i64 m)) => four_ok (w := W) s m hW hs ts us hts hn hu hd
  clear hts hn hu hd
  obtain ⟨a, ha⟩ : ∃ a, a = acc us := ⟨_, rfl⟩
  rw [← ha] at k56 ⊢
  clear ha
  go_enter Tryz.func19, Tryz.ntmps19
  go_wp2_with fail
  have HF0 := Lib.hid (Fr.alloc (Fr.refl N0 w) (.cells #[.bool false, .int .u64 0, .int .u64 0] 24))
  have hlt0 := World.block_lt_of_cell? _ _ hm
  have HM := Lib.hid ((HF0.out.cell hlt0 id).trans hm)
  have HA2 := Lib.hid (Blk.new w 24 #[.bool false, .int .u64 0, .int .u64 0])
  generalize w.alloc _ = w1 at *
  obtain ⟨g2, hg2⟩ : ∃ g, g = w.heap.size := ⟨_, rfl⟩
  rw [← hg2] at HA2 ⊢
  have HG2 := Lib.hid (Nat.le_of_eq hg2.symm)
  clear hg2 hm hlt0
  unfold adV at k56
  go_wp2_with (first
    | (go_at_call 34; refine (k56 _ HM.out).mono ?_; rintro e w2 ⟨rfl, hf⟩; have B2 := Lib.hid (HA2.out.fr hf id); have F2 := Lib.hid hf)
    | (refine wpList_store_row rfl 24 _ _ rfl g2 _ rfl rfl _ _ (B2.out.alloc _) rfl rfl (by simp [Value.oneCell']) ?_))
  refine ret_cell2 rfl rfl ((B2.out.alloc _).row _) Tryz.underlying24 rfl ⟨rfl, Fr.setRow ((HF0.out.trans F2.out).alloc _) (.inr HG2.out) _⟩
/-- strings.Cut at a place of memory where the library's own variable stands. -/
theorem cut_any (s sep : ByteArray) (m : Int) (W : World) (hW : W.cell? ⟨0, 0, none⟩ = some (.int .i64 m)) (hs : s.size < 4294967281) (x y : ByteArray) (b : Bool) (h1 : (⟨(Lib.cut s.data.toList sep.data.toList).1.toArray⟩ : ByteArray) = x) (h2 : (⟨(Lib.cut s.data.toList sep.data.toList).2.1.toArray⟩ : ByteArray) = y) (h3 : (Lib.cut s.data.toList sep.data.toList).2.2 = b) :
    Calls Tryz.prog 18 #[.string s, .string sep] W fun e w' => e = .returned (.tuple #[.string x, .string y, .bool b]) ∧ Fr N0 W w' := by
  refine (Any.strings_Cut Tryz.cutL s sep m W hs hW).mono ?_
  rintro e w' ⟨rfl, n, rfl⟩
  rw [h1, h2, h3]
  exact ⟨rfl, (Fr.refl _ _).drewN _⟩
end
end Go.Proofs.YtcameghlkplgfaaGreatDoor
namespace Go.Proofs.YtcameghlkplgfaaGreatDoor
open Go.Proofs Go.Shelf Go.RowKit
/-- The library's own variable stands. -/
def Mx (m : Int) (W : World) : Prop := W.cell? ⟨0, 0, none⟩ = some (.int .i64 m)
theorem Mx.fr {m : Int} {w W : World} (h : Mx m w) (hF : Fr N0 w W) : Mx m W := (hF.cell (p := ⟨0, 0, none⟩) (World.block_lt_of_cell? _ _ h) id).trans h
/-- What a text is read as, when its address and its bits are read. -/
def parsP (a : Ad) (k : Int) : Px × Int := if validP ⟨a, k⟩ = true then (⟨a, k⟩, 0) else (⟨⟨false, 0, 0⟩, 0⟩, 30)
section
variable {w : World}
set_option maxHeartbeats 1600000 in
set_option maxRecDepth 100000 in
theorem pparse (s x y : ByteArray) (m : Int) (hm : Mx m w) (a : Ad) (k : Int) (hp : (⟨a, k⟩ : Px).ok)
    (h40 : ∀ W : World, Mx m W → Calls Tryz.prog 18 #[.string s, .string ⟨#[47]⟩] W fun e w' => e = .returned (.tuple #[.string x, .string y, .bool true]) ∧ Fr N0 W w')
    (h41 : ∀ W : World, Mx m W → Calls Tryz.prog 19 #[.string x] W fun e w' => e = .returned (.tuple #[adV a, .int .i64 0]) ∧ Fr N0 W w')
    (h42 : ∀ W : World, Calls Tryz.prog 20 #[.string y] W fun e w' => e = .returned (.int .i64 k) ∧ Fr N0 W w') :
    Calls Tryz.prog 5 #[.string s] w fun e w' => e = .returned (.tuple #[pxV (parsP a k).1, .int .i64 (parsP a k).2]) ∧ Fr N0 w w' := by
  obtain ⟨s1, h1, l1⟩ := a
  unfold adV at h41
  have c14 : ∀ (w : World) {b : Bool}, validP ⟨⟨s1, h1, l1⟩, k⟩ = b → Calls Tryz.prog 12 #[.agg #[.bool s1, .int .u64 (h1 : Int), .int .u64 (l1 : Int), .int .i64 k]] w fun e w' => e = .returned (.bool b) ∧ Fr N0 w w' := fun w b hb => hb ▸ val_ (w := w) ⟨⟨s1, h1, l1⟩, k⟩ hp
  go_enter Tryz.func5, Tryz.ntmps5
  go_wp2_with fail
  have HF0 := Lib.hid (Fr.alloc (Fr.refl N0 w) (.cells #[.bool false, .int .u64 0, .int .u64 0, .int .i64 0] 26))
  have HM := Lib.hid (hm.fr HF0.out)
  have HA2 := Lib.hid (Blk.new w 26 #[.bool false, .int .u64 0, .int .u64 0, .int .i64 0])
  generalize w.alloc _ = w1 at *
  obtain ⟨g2, hg2⟩ : ∃ g, g = w.heap.size := ⟨_, rfl⟩
  rw [← hg2] at HA2 ⊢
  have HG2 := Lib.hid (Nat.le_of_eq hg2.symm)
  clear hg2 hm
  go_wp2_with (first
    | (go_at_call 18; refine (h40 _ HM.out).mono ?_; rintro e w2 ⟨rfl, hf⟩; have F2 := Lib.hid hf)
    | (go_at_call 19; refine (h41 _ (HM.out.fr F2.out)).mono ?_; rintro e w3 ⟨rfl, hf3⟩; have F3 := Lib.hid (F2.out.trans hf3)))
  have HB := Lib.hid (Blk.new w3 24 #[.bool s1, .int .u64 (h1 : Int), .int .u64 (l1 : Int)])
  have HF4 := Lib.hid (HF0.out.trans (F3.out.alloc (.cells #[.bool s1, .int .u64 (h1 : Int), .int .u64 (l1 : Int)] 24)))
  have HA4 := Lib.hid ((HA2.out.fr F3.out id).alloc (.cells #[.bool s1, .int .u64 (h1 : Int), .int .u64 (l1 : Int)] 24))
  generalize w3.alloc _ = w4 at *
  generalize w3.heap.size = g7 at *
  obtain ⟨z0, z1, z2⟩ := HB.out.c3
  have HZ := Lib.hid fun (W : World) (hf : Fr N0 w4 W) => (HB.out.fr hf id).c3
  have hlt7 : g7 < w4.heap.size := HB.out.lt
  go_region_with ((go_at_call 20; first
    | ((with_reducible refine (h42 (World.drew (World.alloc _ _))).mono ?_); rintro e w5 ⟨rfl, hf5⟩; have F5 := Lib.hid (((Fr.refl N0 w4).alloc _).drew.trans hf5); have B5 : Blk w5 w4.heap.size 26 #[.bool false, .int .u64 0, .int .u64 0, .int .i64 0] := (Blk.new _ _ _).drew.fr hf5 id; obtain ⟨p0, p1, p2, p3⟩ := B5.c4; have q0 := B5.frozen 0; have q1 := B5.frozen 1; have q2 := B5.frozen 2; have q3 := B5.frozen 3; obtain ⟨z0, z1, z2⟩ := HZ.out _ F5.out; have hlt5 : g7 < w5.heap.size := (HB.out.fr F5.out id).lt)
    | (refine (h42 _).mono ?_; rintro e w5 ⟨rfl, hf5⟩; have F5 := Lib.hid ((Fr.refl N0 w4).drew.trans hf5); obtain ⟨z0, z1, z2⟩ := HZ.out _ F5.out; have hlt5 : g7 < w5.heap.size := (HB.out.fr F5.out id).lt)))
  all_goals go_wp2_with fail
  all_goals first
    | (have HB9 := Lib.hid (B5.set4 (.bool s1) (.int .u64 (h1 : Int)) (.int .u64 (l1 : Int)) (.int .i64 k)); have HF9 := Lib.hid ((((F5.out.setCell (p := ⟨w4.heap.size, 0, none⟩) (.inr (Nat.le_refl _)) (.bool s1)).setCell (p := ⟨w4.heap.size, 1, none⟩) (.inr (Nat.le_refl _)) (.int .u64 (h1 : Int))).setCell (p := ⟨w4.heap.size, 2, none⟩) (.inr (Nat.le_refl _)) (.int .u64 (l1 : Int))).setCell (p := ⟨w4.heap.size, 3, none⟩) (.inr (Nat.le_refl _)) (.int .i64 k)); generalize World.setCell (World.setCell (World.setCell (w5.setCell _ _) _ _) _ _) _ _ = w6 at *; generalize w4.heap.size = g9 at *)
    | (have HB9 := Lib.hid (Blk.new w5 26 #[.bool s1, .int .u64 (h1 : Int), .int .u64 (l1 : Int), .int .i64 k]); have HF9 := Lib.hid (F5.out.alloc (.cells #[.bool s1, .int .u64 (h1 : Int), .int .u64 (l1 : Int), .int .i64 k] 26)); generalize w5.alloc _ = w6 at *; generalize w5.heap.size = g9 at *)
  all_goals
    have HZ9 := Lib.hid fun (W : World) (hf : Fr N0 w6 W) => (HB9.out.fr hf id).c4
    have HZ2 := Lib.hid fun (W : World) (hf : Fr N0 w6 W) => ((HA4.out.fr HF9.out id).fr hf id)
    clear hf5 F5 z0 z1 z2 hlt5 hlt7
    cases hv : validP ⟨⟨s1, h1, l1⟩, k⟩ with
    | true =>
      have k14 := fun w => c14 w hv
      have HV := Lib.hid hv
      clear c14 hv
      go_wp2_with (first
        | (go_at_call 12; refine (k14 _).mono ?_; rintro e w7 ⟨rfl, hf⟩; have F7 := Lib.hid hf; obtain ⟨z0, z1, z2, z3⟩ := HZ9.out _ F7.out)
        | (refine wpList_store_row rfl 26 _ _ rfl g2 _ rfl rfl _ _ (HZ2.out _ F7.out) rfl rfl (by simp [Value.oneCell']) ?_))
      refine ret_cell2 rfl rfl ((HZ2.out _ F7.out).row _) Tryz.underlying26 rfl ⟨?_, Fr.setRow (HF4.out.trans (HF9.out.trans F7.out)) (.inr HG2.out) _⟩
      unfold parsP
      rw [HV.out]
      rfl
    | false =>
      have k14 := fun w => c14 w hv
      have HV := Lib.hid hv
      clear c14 hv
      go_wp2_with (first
        | (go_at_call 12; refine (k14 _).mono ?_; rintro e w7 ⟨rfl, hf⟩; have F7 := Lib.hid hf; obtain ⟨z0, z1, z2, z3⟩ := HZ9.out _ F7.out)
        | (refine wpList_store_row rfl 26 _ _ rfl g2 _ rfl rfl _ _ (HZ2.out _ F7.out) rfl rfl (by simp [Value.oneCell']) ?_))
      refine ret_cell2 rfl rfl ((HZ2.out _ F7.out).row _) Tryz.underlying26 rfl ⟨?_, Fr.setRow (HF4.out.trans (HF9.out.trans F7.out)) (.inr HG2.out) _⟩
      unfold parsP
      rw [HV.out]
      rfl
end
end Go.Proofs.YtcameghlkplgfaaGreatDoor
namespace Go.Proofs.YtcameghlkplgfaaGreatDoor
open Go.Proofs Go.Shelf Go.RowKit Go.Lib Go.Sort
shelf_lay LaysM.n284 Nm 284 at Tryz as Tryz.digitsL
shelf_lay Lays.n285 Nm 285 at Tryz as Tryz.format10L
theorem Fr.regrow (w : World) (k : Nat) (os : Array Obj) : Fr N0 w (grow (w.drewN k) os) := Fr.of_below (Lib.below_grow _ w (Nat.le_refl _) k os)
/-- The library's table of the powers of ten stands. -/
def T10 (w : World) : Prop := Lib.TabIs Tryz.prog w "internal/strconv.uint64pow10" .u64 Lib.pow10Tab
theorem T10.fr {w W : World} (h : T10 w) (hF : Fr N0 w W) : T10 W := by
  unfold T10 Lib.TabIs World.var? at *
  cases hg : Tryz.prog.globalNamed "internal/strconv.uint64pow10" with
  | none => simp [hg] at h
  | some g =>
    simp only [hg, Option.bind_some] at h ⊢
    have hlt : g < w.heap.size := by
      rcases Nat.lt_or_ge g w.heap.size with h' | h'
      · exact h'
      · rw [Array.getElem?_eq_none h'] at h; simp at h
    rw [hF.block g hlt id]
    exact h
section
variable {w : World}
set_option maxHeartbeats 6400000 in
set_option maxRecDepth 100000 in
theorem ifu10 (u : Nat) (hu64 : u < 18446744073709551616) (htab : T10 w) : Calls Tryz.prog 64 #[.int .u64 (u : Int), .int .i64 10] w fun e w' => e = .returned (.string ⟨(Lib.decDigits u).toArray⟩) ∧ Fr N0 w w' := by
  by_cases hs : u < 100
  · have k71 := Any.internal_strconv_small Tryz.smallL u hs w
    have hi : (u : Int) < 100 := by omega
    go_enter Tryz.func64, Tryz.ntmps64
    go_wp2_with (go_at_call 81; refine k71.mono ?_; rintro e w' ⟨rfl, rfl⟩)
    go_ret
    exact ⟨rfl, Fr.refl _ _⟩
  · have hu1 : 1 ≤ u := by omega
    have hi : ¬ (u : Int) < 100 := by omega
    have hnd20 : Lib.nDigits u ≤ 20 := by have := Lib.numDigits_eq u hu1 hu64; split at this <;> omega
    have hal : Tryz.prog.arrayLen 110 = 24 := by simp [Program.arrayLen, Tryz.underlying110]
    have hsl : ∀ W, (Instr.sliceAt 110 (.pointer (some ⟨w.heap.size, 0, none⟩)) none (some (.int .i64 (Lib.nDigits u : Int))) none).run Tryz.prog W = .ok (.slice (some ⟨w.heap.size, 0, none⟩) (Lib.nDigits u) 24) W := fun W => by
      rw [run_sliceAt_array_h W 110 ⟨w.heap.size, 0, none⟩ (by simp [Program.arrayLen, Program.elem, Tryz.underlying110]) .i64 (Lib.nDigits u : Int) (by omega) (by rw [hal]; omega)]
      go_simp
    have hH0 := Lib.holds_zero0 w 110 (Lib.nDigits u) (by omega)
    have hfmt := Any.internal_strconv_formatBase10 Tryz.format10L w.heap.size 0 24 u (Array.replicate (Lib.nDigits u) 0) (w.alloc (.cells Lib.zeros24 110)) hH0 (by rw [Array.size_replicate]; exact Lib.lt_pow_nDigits u) hu64 (by rw [Array.size_replicate]; omega)
    rw [Array.size_replicate] at hfmt
    have HH0 := Lib.hid hH0
    have k72 := Any.internal_strconv_numDigits Tryz.digitsL u hu1 hu64 _ (Lib.tabIs_alloc htab (.cells Lib.zeros24 110))
    clear hH0 hal
    go_enter Tryz.func64, Tryz.ntmps64
    go_wp2_with (go_at_call 82; refine k72.mono ?_; rintro e w' ⟨rfl, rfl⟩)
    go_at_call 83
    refine hfmt.mono ?_
    rintro e w' ⟨rfl, k, v', dk, rfl, hF⟩
    have hcv : (convert 53 9 (.slice (some ⟨w.heap.size, 0, none⟩) (Lib.nDigits u) 24)).run Tryz.prog ((putRow (fun (b : UInt8) => Value.int .u8 (b.toNat : Int)) (w.alloc (.cells Lib.zeros24 110)) w.heap.size 0 dk).drewN k) = .ok (.string ⟨(Lib.decDigits u).toArray⟩) ((putRow (fun (b : UInt8) => Value.int .u8 (b.toNat : Int)) (w.alloc (.cells Lib.zeros24 110)) w.heap.size 0 dk).drewN k) := by
      have h := run_convert_bytes_back (P := Tryz.prog) ((putRow (fun (b : UInt8) => Value.int .u8 (b.toNat : Int)) (w.alloc (.cells Lib.zeros24 110)) w.heap.size 0 dk).drewN k) 53 9 5 ⟨w.heap.size, 0, none⟩ 24 (Lib.decDigits u) Tryz.underlying53 Tryz.underlying5 Tryz.underlying9 (fun j hj => by
        rw [Lib.row_is_numeral hF j hj, Lib.add_plain, World.cell?_drewN]
        exact cell?_putRow (fun (b : UInt8) => Value.int .u8 (b.toNat : Int)) _ w.heap.size 0 _ dk HH0.out (by rw [hF.size, Array.size_replicate]) j (by rw [hF.size]; rw [Lib.decDigits_length] at hj; exact hj))
      rw [Lib.decDigits_length] at h
      exact h
    go_wp2
    go_ret
    obtain ⟨os, eo⟩ := Lib.fin_at w (.cells Lib.zeros24 110) dk k 0
    refine ⟨rfl, ?_⟩
    rw [eo]
    exact Fr.regrow _ _ _
theorem fu10 (u : Nat) (hu64 : u < 18446744073709551616) (htab : T10 w) : Calls Tryz.prog 43 #[.int .u64 (u : Int), .int .i64 10] w fun e w' => e = .returned (.string ⟨(Lib.decDigits u).toArray⟩) ∧ Fr N0 w w' := by
  have k := ifu10 (w := w) u hu64 htab
  go_enter Tryz.func43, Tryz.ntmps43
  go_wp2_with (go_at_call 64; refine k.mono ?_; rintro e w' ⟨rfl, hf⟩)
  go_ret
  exact ⟨rfl, hf⟩
end
end Go.Proofs.YtcameghlkplgfaaGreatDoor
namespace Go.Proofs.YtcameghlkplgfaaGreatDoor
open Go.Proofs Go.Shelf Go.RowKit Go.Lib Go.Sort
/-- The library's table of de Bruijn's numbers: the one cell of it that base 16 asks for. -/
def D4 (w : World) : Prop := w.cell? ⟨5, 15, none⟩ = some (.int .u8 4)
theorem D4.fr {w W : World} (h : D4 w) (hF : Fr N0 w W) : D4 W := by
  unfold D4 at *
  rw [hF.cell (World.block_lt_of_cell? _ _ h) id]
  exact h
def dg36 : ByteArray := ⟨#[48, 49, 50, 51, 52, 53, 54, 55, 56, 57, 97, 98, 99, 100, 101, 102, 103, 104, 105, 106, 107, 108, 109, 110, 111, 112, 113, 114, 115, 116, 117, 118, 119, 120, 121, 122]⟩
/-- A digit of base 16. -/
def hd (n : Nat) : UInt8 := dg36.data.toList.getD n 0
/-- How many digits of base 16. -/
def nh (u : Nat) : Nat := if u < 16 then 1 else if u < 256 then 2 else if u < 4096 then 3 else 4
/-- The digits of base 16. -/
def hxT (u : Nat) : List UInt8 := (List.range (nh u)).map fun k => hd (u / 16 ^ (nh u - 1 - k) % 16)
/-- The 65 bytes once j digits are written. -/
def ax (u j : Nat) : List Value := (List.range 65).map fun k => Value.int .u8 (if 65 ≤ k + j then ((hd (u / 16 ^ (64 - k) % 16)).toNat : Int) else 0)
theorem ax_len (u j : Nat) : (ax u j).length = 65 := by simp [ax]
theorem ax_at {u j k : Nat} (hk : k < 65) : (ax u j)[k]? = some (Value.int .u8 (if 65 ≤ k + j then ((hd (u / 16 ^ (64 - k) % 16)).toNat : Int) else 0)) := by
  unfold ax
  rw [List.getElem?_map, List.getElem?_range hk]
  rfl
theorem ax_set {u j : Nat} (hj : j < 65) : (ax u j).set (64 - j) (Value.int .u8 ((hd (u / 16 ^ j % 16)).toNat : Int)) = ax u (j + 1) := by
  apply List.ext_getElem?
  intro k
  by_cases hk : k < 65
  · rw [List.getElem?_set, ax_at hk, ax_len]
    by_cases e : 64 - j = k
    · rw [if_pos e, if_pos (by omega), ax_at hk, if_pos (by omega), show 64 - k = j by omega]
    · rw [if_neg e, ax_at hk]
      by_cases h2 : 65 ≤ k + j
      · rw [if_pos h2, if_pos (by omega)]
      · rw [if_neg h2, if_neg (by omega)]
  · rw [List.getElem?_eq_none (by simp [ax]; omega), List.getElem?_eq_none (by simp [ax]; omega)]
theorem ax_zero (u : Nat) : (ax u 0).toArray = Array.replicate 65 (Value.int .u8 0) := by
  apply Array.ext'
  simp only [Array.toList_replicate]
  apply List.ext_getElem?
  intro k
  by_cases hk : k < 65
  · rw [ax_at hk, if_neg (by omega), List.getElem?_replicate, if_pos hk]
  · rw [List.getElem?_eq_none (by simp [ax]; omega), List.getElem?_eq_none (by simp; omega)]
theorem nh_le (u : Nat) : 1 ≤ nh u ∧ nh u ≤ 4 := by unfold nh; split <;> (try split) <;> (try split) <;> omega
/-- Rounds of the loop. -/
theorem hx_more {u j : Nat} (hu : u < 65536) : (16 ≤ u / 16 ^ j) = (j + 1 < nh u) := by
  have h2 : j ≥ 4 → u / 16 ^ j = 0 := fun h => Nat.div_eq_of_lt (Nat.lt_of_lt_of_le (show u < 16 ^ 4 by omega) (Nat.pow_le_pow_right (by omega) h))
  unfold nh
  rcases j with _ | _ | _ | _ | j
  · simp only [Nat.pow_zero, Nat.div_one, eq_iff_iff]; split <;> (try split) <;> (try split) <;> omega
  · simp only [eq_iff_iff, Nat.zero_add, Nat.pow_one]; split <;> (try split) <;> (try split) <;> omega
  · simp only [eq_iff_iff]; split <;> (try split) <;> (try split) <;> omega
  · simp only [eq_iff_iff]; split <;> (try split) <;> (try split) <;> omega
  · rw [h2 (by omega)]; simp only [eq_iff_iff]; split <;> (try split) <;> (try split) <;> omega
theorem and15 {x : Nat} (hx : x < 18446744073709551616) : bits .and .u64 (x : Int) 15 = ((x % 16 : Nat) : Int) := by
  show IntKind.u64.wrap ((BitVec.ofInt 64 (x : Int) &&& BitVec.ofInt 64 15).toNat : Int) = _
  have h2 : (BitVec.ofInt 64 (15 : Int)).toNat = 2 ^ 4 - 1 := by decide
  rw [BitVec.toNat_and, h2, Nat.and_two_pow_sub_one_eq_mod, BitVec.ofInt_natCast, BitVec.toNat_ofNat, Nat.mod_eq_of_lt hx, IntKind.wrap_u64]
  have : x % 2 ^ 4 < 16 := Nat.mod_lt _ (by omega)
  have e : x % 2 ^ 4 = x % 16 := rfl
  omega
theorem hd_at (k : Nat) (h : k < dg36.size) : dg36[k]'h = hd k := by
  unfold hd
  have h2 : k < dg36.data.toList.length := h
  rw [List.getD_eq_getElem?_getD, List.getElem?_eq_getElem h2]
  rfl
theorem hxT_len (u : Nat) : (hxT u).length = nh u := by simp [hxT]
theorem ax_hxT {u i : Nat} (h : i < (hxT u).length) : (ax u (nh u))[65 - nh u + i]? = some (.int .u8 (((hxT u)[i]'h).toNat : Int)) := by
  rw [hxT_len] at h
  have hn := nh_le u
  rw [ax_at (by omega), if_pos (by omega)]
  have e : 64 - (65 - nh u + i) = nh u - 1 - i := by omega
  rw [e]
  simp [hxT]
section
variable {w : World}
theorem tz16 (hd : D4 w) : Calls Tryz.prog 98 #[.int .u64 16] w fun e w' => e = .returned (.int .i64 4) ∧ w' = w := by
  have k : Calls Tryz.prog 105 #[.int .u64 16] w fun e w' => e = .returned (.int .i64 4) ∧ w' = w := by
    have e15 : (IntKind.u64.wrap (bits .and .u64 16 (IntKind.u64.wrap (-16)) * 285870213051353865) / 288230376151711744).toNat = 15 := by decide
    have hd2 : w.cell? ⟨5, (IntKind.u64.wrap (bits .and .u64 16 (IntKind.u64.wrap (-16)) * 285870213051353865) / 288230376151711744).toNat, none⟩ = some (.int .u8 4) := by rw [e15]; exact hd
    clear hd e15
    go_enter Tryz.func105, Tryz.ntmps105
    go_wp2_with fail
    go_ret
    first | exact ⟨rfl, rfl⟩ | done
  go_enter Tryz.func98, Tryz.ntmps98
  go_wp2_with (go_at_call 105; refine k.mono ?_; rintro e w' ⟨rfl, rfl⟩)
  go_ret
  first | exact ⟨rfl, rfl⟩ | done
theorem pow2_16 : Calls Tryz.prog 97 #[.int .i64 16] w fun e w' => e = .returned (.bool true) ∧ w' = w := by
  go_enter Tryz.func97, Tryz.ntmps97
  go_wp2_with fail
  go_ret
  first | exact ⟨rfl, rfl⟩ | done
set_option maxHeartbeats 3200000 in
set_option maxRecDepth 100000 in
theorem fbits (u : Nat) (hu : u < 65536) (hd : D4 w) : Calls Tryz.prog 84 #[.slice none 0 0, .int .u64 (u : Int), .int .i64 16, .bool false, .bool false] w fun e w' => e = .returned (.tuple #[.slice none 0 0, .string ⟨(hxT u).toArray⟩]) ∧ Fr N0 w w' := by
  have HD := Lib.hid hd
  have HU := Lib.hid hu
  clear hd hu
  have hz0 : Tryz.zeroCells126 = (ax u 0).toArray := by rw [ax_zero]; kernel_rfl
  have kt := tz16 (HD.out.fr (Fr.alloc (Fr.refl N0 w) (.cells Tryz.zeroCells126 126)))
  have HFa := Lib.hid (Fr.alloc (Fr.refl N0 w) (.cells Tryz.zeroCells126 126))
  have HB := Lib.hid (Blk.new w 126 Tryz.zeroCells126)
  have HB2 : Hid (Blk (w.alloc (.cells Tryz.zeroCells126 126)) w.heap.size 126 (ax u 0).toArray) := Lib.hid (by rw [← hz0]; exact HB.out)
  clear hz0 HB HD
  go_enter Tryz.func84, Tryz.ntmps84
  go_wp2_with (first
    | (go_at_call 97; refine pow2_16.mono ?_; rintro e w2 ⟨rfl, rfl⟩)
    | (go_at_call 98; refine kt.mono ?_; rintro e w2 ⟨rfl, rfl⟩))
  clear kt
  generalize w.alloc _ = w1 at *
  obtain ⟨g, hg⟩ : ∃ g, g = w.heap.size := ⟨_, rfl⟩
  rw [← hg] at HB2 ⊢
  have HG := Lib.hid (Nat.le_of_eq hg.symm)
  clear hg
  go_loopw [1, 13] (fun x i wr => ∃ j : Nat, j < nh u ∧ i = .int .i64 (65 - (j : Int)) ∧ x = .int .u64 ((u / 16 ^ j : Nat) : Int) ∧ Blk wr g 126 (ax u j).toArray ∧ Fr (fun i => i = g) w1 wr) (fun _ i _ => (RowKit.intOf i).toNat)
  case atStart => exact ⟨0, by have := nh_le u; omega, rfl, by simp, HB2.out, Fr.refl _ _⟩
  case round =>
    obtain ⟨j, hj, rfl, rfl, hb, hF⟩ := hrel
    have B := Lib.hid hb
    have G := Lib.hid hF
    have GW := Lib.hid (HFa.out.step hF fun i hi => .inr (hi ▸ HG.out))
    have hn := nh_le u
    have hm := hx_more (u := u) (j := j) HU.out
    have hx0 : u / 16 ^ j < 65536 := Nat.lt_of_le_of_lt (Nat.div_le_self _ _) HU.out
    have hnx : u / 16 ^ j / 16 = u / 16 ^ (j + 1) := by rw [Nat.pow_succ, Nat.div_div_eq_div_mul]
    have HNX := Lib.hid hnx
    obtain ⟨x, hx⟩ : ∃ x, x = u / 16 ^ j := ⟨_, rfl⟩
    rw [← hx] at hm hx0 HNX ⊢
    have HX := Lib.hid hx
    have HA := Lib.hid (and15 (x := x) (by omega))
    have fz := B.out.frozen (65 - j - 1)
    have fz2 := B.out.frozen (64 - j)
    have hj65 : j < 5 := by omega
    have y := B.out.cell (65 - j - 1)
    rw [List.getElem?_toArray, ax_at (by omega), if_neg (by omega)] at y
    have hsl : ∀ W, (Instr.sliceAt 126 (.pointer (some ⟨g, 0, none⟩)) (some (.int .i64 (65 - (j : Int) - 1))) none none).run Tryz.prog W = .ok (.slice (some ⟨g, 64 - j, none⟩) (j + 1) (j + 1)) W := fun W => by
      have hal : Tryz.prog.arrayLen 126 = 65 := by simp [Program.arrayLen, Tryz.underlying126]
      rw [run_sliceAt_array_l W 126 ⟨g, 0, none⟩ (by simp [Program.arrayLen, Program.elem, Tryz.underlying126]) .i64 (65 - (j : Int) - 1) (by omega) (by rw [hal]; omega)]
      have e : (65 - (j : Int) - 1).toNat = 64 - j := by omega
      rw [e, hal]
      have e2 : 65 - (64 - j) = j + 1 := by omega
      simp only [slicedAt, e2]
      go_simp
      omega
    clear hb hF hnx hx
    by_cases hmore : j + 1 < nh u
    · have h16 : (16 : Int) ≤ (x : Int) := by have : 16 ≤ x := by rw [hm]; exact hmore
                                              omega
      have hm16 : x % 16 < 16 := Nat.mod_lt _ (by omega)
      clear hm
      have HBv : ∀ v : Value, v = .int .u8 ((hd (u / 16 ^ j % 16)).toNat : Int) → Blk (wr.setCell ⟨g, 65 - j - 1, none⟩ v) g 126 (ax u (j + 1)).toArray := by
        rintro _ rfl
        have := B.out.set_ (65 - j - 1) (.int .u8 ((hd (u / 16 ^ j % 16)).toNat : Int))
        rw [List.setIfInBounds_toArray, show 65 - j - 1 = 64 - j by omega, ax_set (by omega)] at this
        rw [show 65 - j - 1 = 64 - j by omega]
        exact this
      have HBV := Lib.hid HBv
      have hb0 : 0 ≤ bits .and .u64 (x : Int) 15 := by rw [HA.out]; omega
      have hb1 : bits .and .u64 (x : Int) 15 < 36 := by rw [HA.out]; omega
      clear HBv
      go_wp2_with fail
      refine ⟨⟨j + 1, hmore, by go_num, ?_, HBV.out _ ?_, G.out.setCell (.inl rfl) _⟩, ?_⟩
      · rw [← HNX.out]; simp
      · rw [← HX.out]
        refine congrArg (fun n : UInt8 => Value.int .u8 (n.toNat : Int)) ((hd_at _ _).trans (congrArg hd ?_))
        rw [HA.out]; exact Int.toNat_natCast _
      · simp [RowKit.intOf]; omega
    · have h16 : ¬ (16 : Int) ≤ (x : Int) := by have : ¬ 16 ≤ x := by rw [hm]; exact hmore
                                                omega
      clear hm
      have hx36 : x < (⟨#[48, 49, 50, 51, 52, 53, 54, 55, 56, 57, 97, 98, 99, 100, 101, 102, 103, 104, 105, 106, 107, 108, 109, 110, 111, 112, 113, 114, 115, 116, 117, 118, 119, 120, 121, 122]⟩ : ByteArray).size := by
        have h36 : dg36.size = 36 := by decide
        show x < dg36.size
        omega
      have hlast : nh u = j + 1 := by omega
      have HW := Lib.hid (show Blk (wr.setCell ⟨g, 65 - j - 1, none⟩ (.int .u8 (((⟨#[48, 49, 50, 51, 52, 53, 54, 55, 56, 57, 97, 98, 99, 100, 101, 102, 103, 104, 105, 106, 107, 108, 109, 110, 111, 112, 113, 114, 115, 116, 117, 118, 119, 120, 121, 122]⟩ : ByteArray)[x]'hx36).toNat : Int))) g 126 (ax u (nh u)).toArray by
        have e : ((⟨#[48, 49, 50, 51, 52, 53, 54, 55, 56, 57, 97, 98, 99, 100, 101, 102, 103, 104, 105, 106, 107, 108, 109, 110, 111, 112, 113, 114, 115, 116, 117, 118, 119, 120, 121, 122]⟩ : ByteArray)[x]'hx36) = hd (u / 16 ^ j % 16) := (hd_at x hx36).trans (by rw [← HX.out, Nat.mod_eq_of_lt (by omega)])
        rw [e]
        have := B.out.set_ (65 - j - 1) (.int .u8 ((hd (u / 16 ^ j % 16)).toNat : Int))
        rw [List.setIfInBounds_toArray, show 65 - j - 1 = 64 - j by omega, ax_set (by omega)] at this
        rw [show 65 - j - 1 = 64 - j by omega, hlast]
        exact this)
      have hcv : (convert 53 9 (.slice (some ⟨g, 64 - j, none⟩) (j + 1) (j + 1))).run Tryz.prog (wr.setCell ⟨g, 65 - j - 1, none⟩ (.int .u8 (((⟨#[48, 49, 50, 51, 52, 53, 54, 55, 56, 57, 97, 98, 99, 100, 101, 102, 103, 104, 105, 106, 107, 108, 109, 110, 111, 112, 113, 114, 115, 116, 117, 118, 119, 120, 121, 122]⟩ : ByteArray)[x]'hx36).toNat : Int))) = .ok (.string ⟨(hxT u).toArray⟩) (wr.setCell ⟨g, 65 - j - 1, none⟩ (.int .u8 (((⟨#[48, 49, 50, 51, 52, 53, 54, 55, 56, 57, 97, 98, 99, 100, 101, 102, 103, 104, 105, 106, 107, 108, 109, 110, 111, 112, 113, 114, 115, 116, 117, 118, 119, 120, 121, 122]⟩ : ByteArray)[x]'hx36).toNat : Int))) := by
        have h := run_convert_bytes_back (P := Tryz.prog) (wr.setCell ⟨g, 65 - j - 1, none⟩ (.int .u8 (((⟨#[48, 49, 50, 51, 52, 53, 54, 55, 56, 57, 97, 98, 99, 100, 101, 102, 103, 104, 105, 106, 107, 108, 109, 110, 111, 112, 113, 114, 115, 116, 117, 118, 119, 120, 121, 122]⟩ : ByteArray)[x]'hx36).toNat : Int))) 53 9 5 ⟨g, 64 - j, none⟩ (j + 1) (hxT u) Tryz.underlying53 Tryz.underlying5 Tryz.underlying9 (fun i hi => by
          have := HW.out.cell (64 - j + i)
          rw [List.getElem?_toArray, show 64 - j + i = 65 - nh u + i by omega, ax_hxT hi] at this
          rw [Lib.add_plain, show 64 - j + i = 65 - nh u + i by omega]
          exact this)
        rw [hxT_len, hlast] at h
        exact h
      go_wp2_with fail
      go_ret2
      exact ⟨rfl, GW.out.setCell (.inr HG.out) _⟩
theorem fu16 (u : Nat) (hu : u < 65536) (hd : D4 w) : Calls Tryz.prog 43 #[.int .u64 (u : Int), .int .i64 16] w fun e w' => e = .returned (.string ⟨(hxT u).toArray⟩) ∧ Fr N0 w w' := by
  have k0 := fbits (w := w) u hu hd
  have k : Calls Tryz.prog 64 #[.int .u64 (u : Int), .int .i64 16] w fun e w' => e = .returned (.string ⟨(hxT u).toArray⟩) ∧ Fr N0 w w' := by
    go_enter Tryz.func64, Tryz.ntmps64
    go_wp2_with (go_at_call 84; refine k0.mono ?_; rintro e w' ⟨rfl, hf⟩)
    go_ret
    exact ⟨rfl, hf⟩
  go_enter Tryz.func43, Tryz.ntmps43
  go_wp2_with (go_at_call 64; refine k.mono ?_; rintro e w' ⟨rfl, hf⟩)
  go_ret
  exact ⟨rfl, hf⟩
end
end Go.Proofs.YtcameghlkplgfaaGreatDoor
namespace Go.Proofs.YtcameghlkplgfaaGreatDoor
open Go.Proofs Go.Shelf Go.RowKit
theorem Tryz.joinX : Builder.Extra Tryz.prog Tryz.joinL_ren where
  sizeBuilder := by kernel_rfl
  liesBuilder := by kernel_rfl
  t5 := Tryz.underlying5
  a5 := Tryz.isAgg5
  z5 := Tryz.sizeOf5
  v5 := Tryz.zeroValue5
  infoByte := by kernel_rfl
  cellsByte := by kernel_rfl
  sizeByte := by kernel_rfl
  neB5 := by decide
/-- The texts of the first bytes, the others empty. -/
def tx4 (l j : Nat) : List ByteArray := (List.range 4).map fun k => if k < j then ⟨(Lib.decDigits (byteA ⟨false, 0, l⟩ k)).toArray⟩ else ByteArray.empty
def txt4 (l : Nat) : ByteArray := ⟨(Lib.join ((tx4 l 4).map (·.data.toList)) [46]).toArray⟩
theorem and255 {x : Nat} (hx : x < 18446744073709551616) : bits .and .u64 (x : Int) 255 = ((x % 256 : Nat) : Int) := by
  show IntKind.u64.wrap ((BitVec.ofInt 64 (x : Int) &&& BitVec.ofInt 64 255).toNat : Int) = _
  have h2 : (BitVec.ofInt 64 (255 : Int)).toNat = 2 ^ 8 - 1 := by decide
  rw [BitVec.toNat_and, h2, Nat.and_two_pow_sub_one_eq_mod, BitVec.ofInt_natCast, BitVec.toNat_ofNat, Nat.mod_eq_of_lt hx, IntKind.wrap_u64]
  have : x % 2 ^ 8 < 256 := Nat.mod_lt _ (by omega)
  have e : x % 2 ^ 8 = x % 256 := rfl
  omega
theorem byte_and {l j : Nat} (hl : l < 4294967296) : bits .and .u64 ((l : Int) / 2 ^ (24 - 8 * j)) 255 = ((byteA ⟨false, 0, l⟩ j : Nat) : Int) := by
  have e : ((l : Int) / 2 ^ (24 - 8 * j)) = ((l / 2 ^ (24 - 8 * j) : Nat) : Int) := by simp
  rw [e, and255 (Nat.lt_of_le_of_lt (Nat.div_le_self _ _) (by omega))]
  rfl
theorem tx4_len (l j : Nat) : (tx4 l j).length = 4 := by simp [tx4]
theorem tx4_at {l j k : Nat} (hk : k < 4) : (tx4 l j)[k]? = some (if k < j then ⟨(Lib.decDigits (byteA ⟨false, 0, l⟩ k)).toArray⟩ else ByteArray.empty) := by
  unfold tx4
  rw [List.getElem?_map, List.getElem?_range hk]
  rfl
theorem tx4_set {l j : Nat} (hj : j < 4) : (tx4 l j).set j ⟨(Lib.decDigits (byteA ⟨false, 0, l⟩ j)).toArray⟩ = tx4 l (j + 1) := by
  apply List.ext_getElem? 
  intro k
  by_cases hk : k < 4
  · rw [List.getElem?_set, tx4_at hk, tx4_len]
    by_cases e : j = k
    · subst e
      rw [if_pos rfl, if_pos hj, tx4_at hk, if_pos (by omega)]
    · rw [if_neg e, tx4_at hk]
      by_cases h2 : k < j
      · rw [if_pos h2, if_pos (by omega)]
      · rw [if_neg h2, if_neg (by omega)]
  · rw [List.getElem?_eq_none (by simp [tx4]; omega), List.getElem?_eq_none (by simp [tx4]; omega)]
theorem dd_le3 {x : Nat} (h : x < 256) : (Lib.decDigits x).length ≤ 3 := by
  rw [Lib.decDigits_length]
  by_cases h1 : x < 10
  · rw [Lib.nDigits_small h1]; omega
  · rw [Lib.nDigits_big h1]
    by_cases h2 : x / 10 < 10
    · rw [Lib.nDigits_small h2]; omega
    · rw [Lib.nDigits_big h2, Lib.nDigits_small (by omega)]; omega
section
variable {w : World}
set_option maxHeartbeats 1600000 in
set_option maxRecDepth 100000 in
theorem prt4 (l : Nat) (hl : l < 4294967296) (htab : T10 w) : Calls Tryz.prog 23 #[adV ⟨false, 0, l⟩] w fun e w' => e = .returned (.string (txt4 l)) ∧ Fr N0 w w' := by
  have k29 : ∀ (w : World), Calls Tryz.prog 27 #[.agg #[.bool false, .int .u64 0, .int .u64 (l : Int)]] w fun e w' => e = .returned (.bool true) ∧ Fr N0 w w' := fun w => by
    have := aval (w := w) ⟨false, 0, l⟩
    rwa [show validA ⟨false, 0, l⟩ = true by simp [validA, hl]] at this
  have hmk : ∀ w, (Instr.makeSlice 63 (.int .i64 4) (.int .i64 4)).run Tryz.prog w = .ok (.slice (some ⟨w.heap.size, 0, none⟩) 4 4) (w.alloc (.cells #[.string ByteArray.empty, .string ByteArray.empty, .string ByteArray.empty, .string ByteArray.empty] 9)) := fun _ => by kernel_rfl
  go_enter Tryz.func23, Tryz.ntmps23
  unfold adV
  go_wp2_with fail
  have HA1 := Lib.hid (Blk.new w 24 #[Value.bool false, Value.int .u64 (0 : Int), Value.int .u64 (l : Int)])
  have HF1 := Lib.hid (Fr.alloc (Fr.refl N0 w) (.cells #[Value.bool false, Value.int .u64 (0 : Int), Value.int .u64 (l : Int)] 24))
  generalize w.alloc _ = w1 at *
  obtain ⟨g1, hg1⟩ : ∃ g1, g1 = w.heap.size := ⟨_, rfl⟩
  rw [← hg1] at HA1 ⊢
  have HG1 : Hid (w.heap.size ≤ g1) := Lib.hid (by omega)
  clear hg1
  have HZ1 : Hid (∀ W, Fr N0 w1 W → Blk W g1 24 #[Value.bool false, Value.int .u64 (0 : Int), Value.int .u64 (l : Int)]) := Lib.hid fun W hf => HA1.out.fr hf id
  have F := Lib.hid (Fr.refl N0 w1)
  obtain ⟨z1_0, z1_1, z1_2⟩ := (HZ1.out _ F.out).c3
  go_wp2_with (first
    | (go_at_call 27; refine (k29 _).mono ?_; rintro e w2 ⟨rfl, hf⟩; have F := Lib.hid (F.out.trans hf); obtain ⟨z1_0, z1_1, z1_2⟩ := (HZ1.out _ F.out).c3))
  have HF2 := Lib.hid (HF1.out.trans F.out)
  have HT2 := Lib.hid (htab.fr HF2.out)
  have HL := Lib.hid (Blk.new w2 9 #[.string ByteArray.empty, .string ByteArray.empty, .string ByteArray.empty, .string ByteArray.empty])
  have HF3 := Lib.hid (Fr.alloc (Fr.refl N0 w2) (.cells #[.string ByteArray.empty, .string ByteArray.empty, .string ByteArray.empty, .string ByteArray.empty] 9))
  generalize w2.alloc _ = w3 at *
  generalize hg3 : w2.heap.size = g3 at *
  have N31 := Lib.hid (show g1 ≠ g3 from by have := (HZ1.out _ F.out).lt; omega)
  have HG3 := Lib.hid (show w2.heap.size ≤ g3 from by omega)
  have HZ := Lib.hid (HZ1.out w3 (F.out.trans HF3.out))
  have HT0 := Lib.hid htab
  clear htab hmk z1_0 z1_1 z1_2 hg3 hf HZ1
  go_loopw [17] (fun i wr => ∃ j : Nat, j ≤ 4 ∧ i = .int .i64 (j : Int) ∧ Blk wr g3 9 ((tx4 l j).map Value.string).toArray ∧ Fr (fun i => i = g3) w3 wr) (fun i _ => 5 - (intOf i).toNat)
  case atStart => exact ⟨0, by omega, rfl, HL.out, Fr.refl _ _⟩
  case round =>
    obtain ⟨j, hj, rfl, hb, hF⟩ := hrel
    have B := Lib.hid hb
    have G := Lib.hid hF
    have HA := Lib.hid (HZ.out.fr hF N31.out)
    have GW := Lib.hid (((HF2.out.trans HF3.out).step hF fun i hi => .inr (hi ▸ Nat.le_trans HF2.out.size HG3.out)) : Fr N0 w wr)
    obtain ⟨z0, z1, z2⟩ := HA.out.c3
    clear hb hF
    by_cases hj4 : j < 4
    · have hjI : (j : Int) < 4 := by omega
      have HX := Lib.hid (byte_and (j := j) hl)
      have HK := Lib.hid fun (W : World) (hW : Fr N0 w W) => fu10 (w := W) (byteA ⟨false, 0, l⟩ j) (by have := byteA_lt ⟨false, 0, l⟩ j; omega) (HT0.out.fr hW)
      go_wp2_with (go_at_call 43; rw [HX.out]; refine (HK.out _ GW.out).mono ?_; rintro e w5 ⟨rfl, hf5⟩; have B5 := Lib.hid (B.out.fr hf5 id); have y := B5.out.cell j; rw [List.getElem?_toArray, List.getElem?_map, tx4_at hj4, if_neg (Nat.lt_irrefl j)] at y; replace y : w5.cell? ⟨g3, j, none⟩ = some (.string ByteArray.empty) := y; have fz := B5.out.frozen j)
      go_roundw
      case rel =>
        have HB : Blk (w5.setCell ⟨g3, j, none⟩ (.string ⟨(Lib.decDigits (byteA ⟨false, 0, l⟩ j)).toArray⟩)) g3 9 ((tx4 l (j + 1)).map Value.string).toArray := by
          have := B5.out.set_ j (.string ⟨(Lib.decDigits (byteA ⟨false, 0, l⟩ j)).toArray⟩)
          rw [List.setIfInBounds_toArray, ← List.map_set, tx4_set hj4] at this
          exact this
        exact ⟨j + 1, by omega, by go_num, HB, (G.out.trans (hf5.mono fun _ _ h => h.elim)).setCell (.inl rfl) _⟩
      case measure => simp [RowKit.intOf]; omega
    · obtain rfl : j = 4 := by omega
      have hJ := Any.strings_Join Tryz.joinL Tryz.joinX g3 0 4 (tx4 l 4) ⟨#[46]⟩ wr (fun j x hx => by
        have := B.out.cell (0 + j)
        rw [Nat.zero_add, List.getElem?_toArray, List.getElem?_map, hx] at this
        rw [Nat.zero_add]
        exact this) B.out.lt (by rw [tx4_len]; omega) (by rw [tx4_len]; omega) (by
          have h : ∀ j, (Lib.decDigits (byteA ⟨false, 0, l⟩ j)).length ≤ 3 := fun j => dd_le3 (byteA_lt _ _)
          have h0 := h 0
          have h1 := h 1
          have h2 := h 2
          have h3 := h 3
          simp [tx4, List.range_succ, Lib.join]
          omega)
      rw [tx4_len] at hJ
      go_wp2_with (go_at_call 44; refine hJ.mono ?_; rintro e w6 ⟨rfl, hf6⟩)
      go_ret
      exact ⟨rfl, GW.out.trans (Fr.of_below hf6)⟩
end
end Go.Proofs.YtcameghlkplgfaaGreatDoor
namespace Go.Proofs.YtcameghlkplgfaaGreatDoor
open Go.Proofs Go.Shelf Go.RowKit
/-- The texts of the first groups, the others empty. -/
def txs (us : List Nat) (j : Nat) : List ByteArray := (us.take j).map (fun u => (⟨(hxT u).toArray⟩ : ByteArray)) ++ List.replicate (us.length - j) ByteArray.empty
def txG (us : List Nat) : ByteArray := ⟨(Lib.join (us.map hxT) [58]).toArray⟩
theorem txs_len {us : List Nat} {j : Nat} (hj : j ≤ us.length) : (txs us j).length = us.length := by simp [txs]; omega
theorem txs_at {us : List Nat} {j : Nat} (hj : j < us.length) : (txs us j)[j]? = some ByteArray.empty := by
  unfold txs
  rw [List.getElem?_append_right (by rw [List.length_map, List.length_take]; omega), List.getElem?_replicate, if_pos (by simp; omega)]
theorem txs_set {us : List Nat} {j u : Nat} (hu : us[j]? = some u) : (txs us j).set j ⟨(hxT u).toArray⟩ = txs us (j + 1) := by
  have hj : j < us.length := (List.getElem?_eq_some_iff.1 hu).1
  unfold txs
  rw [List.set_append_right _ _ (by rw [List.length_map, List.length_take]; omega), List.take_add_one, hu, List.map_append, List.append_assoc]
  congr 1
  have e : us.length - j = (us.length - (j + 1)) + 1 := by omega
  rw [e, List.length_map, List.length_take, Nat.min_eq_left (by omega), Nat.sub_self, List.replicate_succ]
  rfl
theorem txs_all (us : List Nat) : txs us us.length = us.map fun u => (⟨(hxT u).toArray⟩ : ByteArray) := by simp [txs]
theorem join_le : ∀ (us : List Nat), (Lib.join (us.map hxT) [58]).length ≤ 5 * us.length
  | [] => by simp [Lib.join]
  | [u] => by have := nh_le u; simp [Lib.join, hxT_len]; omega
  | u :: v :: r => by
    have h1 := join_le (v :: r)
    have h2 := nh_le u
    simp only [List.map_cons, Lib.join, List.intercalate, List.intersperse, List.flatten_cons, List.length_append, List.length_cons, List.length_nil, hxT_len] at h1 ⊢
    omega
theorem mk0_ (W : World) : (Instr.makeSlice 63 (.int .i64 0) (.int .i64 0)).run Tryz.prog W = .ok (.slice (some ⟨W.heap.size, 0, none⟩) 0 0) (W.alloc (.cells #[] 9)) := by kernel_rfl
theorem mk1_ (W : World) : (Instr.makeSlice 63 (.int .i64 1) (.int .i64 1)).run Tryz.prog W = .ok (.slice (some ⟨W.heap.size, 0, none⟩) 1 1) (W.alloc (.cells #[.string ByteArray.empty] 9)) := by kernel_rfl
theorem mk2_ (W : World) : (Instr.makeSlice 63 (.int .i64 2) (.int .i64 2)).run Tryz.prog W = .ok (.slice (some ⟨W.heap.size, 0, none⟩) 2 2) (W.alloc (.cells #[.string ByteArray.empty, .string ByteArray.empty] 9)) := by kernel_rfl
theorem mk3_ (W : World) : (Instr.makeSlice 63 (.int .i64 3) (.int .i64 3)).run Tryz.prog W = .ok (.slice (some ⟨W.heap.size, 0, none⟩) 3 3) (W.alloc (.cells #[.string ByteArray.empty, .string ByteArray.empty, .string ByteArray.empty] 9)) := by kernel_rfl
theorem mk4_ (W : World) : (Instr.makeSlice 63 (.int .i64 4) (.int .i64 4)).run Tryz.prog W = .ok (.slice (some ⟨W.heap.size, 0, none⟩) 4 4) (W.alloc (.cells #[.string ByteArray.empty, .string ByteArray.empty, .string ByteArray.empty, .string ByteArray.empty] 9)) := by kernel_rfl
theorem mk5_ (W : World) : (Instr.makeSlice 63 (.int .i64 5) (.int .i64 5)).run Tryz.prog W = .ok (.slice (some ⟨W.heap.size, 0, none⟩) 5 5) (W.alloc (.cells #[.string ByteArray.empty, .string ByteArray.empty, .string ByteArray.empty, .string ByteArray.empty, .string ByteArray.empty] 9)) := by kernel_rfl
theorem mk6_ (W : World) : (Instr.makeSlice 63 (.int .i64 6) (.int .i64 6)).run Tryz.prog W = .ok (.slice (some ⟨W.heap.size, 0, none⟩) 6 6) (W.alloc (.cells #[.string ByteArray.empty, .string ByteArray.empty, .string ByteArray.empty, .string ByteArray.empty, .string ByteArray.empty, .string ByteArray.empty] 9)) := by kernel_rfl
theorem mk7_ (W : World) : (Instr.makeSlice 63 (.int .i64 7) (.int .i64 7)).run Tryz.prog W = .ok (.slice (some ⟨W.heap.size, 0, none⟩) 7 7) (W.alloc (.cells #[.string ByteArray.empty, .string ByteArray.empty, .string ByteArray.empty, .string ByteArray.empty, .string ByteArray.empty, .string ByteArray.empty, .string ByteArray.empty] 9)) := by kernel_rfl
theorem mk8_ (W : World) : (Instr.makeSlice 63 (.int .i64 8) (.int .i64 8)).run Tryz.prog W = .ok (.slice (some ⟨W.heap.size, 0, none⟩) 8 8) (W.alloc (.cells #[.string ByteArray.empty, .string ByteArray.empty, .string ByteArray.empty, .string ByteArray.empty, .string ByteArray.empty, .string ByteArray.empty, .string ByteArray.empty, .string ByteArray.empty] 9)) := by kernel_rfl
section
variable {w : World}
set_option maxHeartbeats 3200000 in
set_option maxRecDepth 100000 in
theorem texts_ (g o n c : Nat) (tg : TypeId) (A : Array Value) (us : List Nat) (hn : us.length = n) (hn8 : n ≤ 8) (hB : Blk w g tg A) (hA : ∀ k (u : Nat), us[k]? = some u → A[o + k]? = some (.int .u16 (u : Int))) (hlt : ∀ u ∈ us, u < 65536) (hd : D4 w) :
    Calls Tryz.prog 47 #[.slice (some ⟨g, o, none⟩) n c] w fun e w' => e = .returned (.string (txG us)) ∧ Fr N0 w w' := by
  have hmk : ∀ W, (Instr.makeSlice 63 (.int .i64 n) (.int .i64 n)).run Tryz.prog W = .ok (.slice (some ⟨W.heap.size, 0, none⟩) n n) (W.alloc (.cells ((txs us 0).map Value.string).toArray 9)) := by
    have e : ((txs us 0).map Value.string).toArray = (List.replicate n (Value.string ByteArray.empty)).toArray := by simp [txs, hn]
    rw [e]
    match n, hn8 with
    | 0, _ => exact mk0_
    | 1, _ => exact mk1_
    | 2, _ => exact mk2_
    | 3, _ => exact mk3_
    | 4, _ => exact mk4_
    | 5, _ => exact mk5_
    | 6, _ => exact mk6_
    | 7, _ => exact mk7_
    | 8, _ => exact mk8_
  have HB := Lib.hid hB
  have HA := Lib.hid hA
  have HL := Lib.hid hlt
  have HN := Lib.hid hn
  have HD := Lib.hid hd
  have hgl := hB.lt
  clear hB hA hlt hn hd
  go_enter Tryz.func47, Tryz.ntmps47
  go_wp2_with fail
  have HF1 := Lib.hid (Fr.alloc (Fr.refl N0 w) (.cells ((txs us 0).map Value.string).toArray 9))
  have HL1 := Lib.hid (Blk.new w 9 ((txs us 0).map Value.string).toArray)
  generalize w.alloc _ = w1 at *
  obtain ⟨g1, hg1⟩ : ∃ g, g = w.heap.size := ⟨_, rfl⟩
  rw [← hg1] at HL1 ⊢
  have NG := Lib.hid (show g ≠ g1 by omega)
  have HG := Lib.hid (Nat.le_of_eq hg1.symm)
  clear hg1 hgl hmk
  go_loopw [11] (fun i wr => ∃ j : Nat, j ≤ n ∧ i = .int .i64 (j : Int) ∧ Blk wr g1 9 ((txs us j).map Value.string).toArray ∧ Fr (fun i => i = g1) w1 wr) (fun i _ => n + 1 - (intOf i).toNat)
  case atStart => exact ⟨0, by omega, rfl, HL1.out, Fr.refl _ _⟩
  case round =>
    obtain ⟨j, hj, rfl, hb, hF⟩ := hrel
    have B := Lib.hid hb
    have G := Lib.hid hF
    have GW := Lib.hid (HF1.out.step hF fun i hi => .inr (hi ▸ HG.out))
    have BG := Lib.hid ((HB.out.fr HF1.out id).fr hF NG.out)
    clear hb hF
    by_cases hjn : j < n
    · have hjI : (j : Int) < n := by omega
      obtain ⟨u, hu⟩ : ∃ u, us[j]? = some u := ⟨_, List.getElem?_eq_getElem (by rw [HN.out]; exact hjn)⟩
      have hu6 : u < 65536 := HL.out u (List.mem_of_getElem? hu)
      have x0 := BG.out.cell (o + j)
      rw [HA.out j u hu] at x0
      have k := fun (W : World) (hW : Fr N0 w W) => fu16 (w := W) u hu6 (HD.out.fr hW)
      have HK := Lib.hid k
      have HS := Lib.hid (txs_set hu)
      have HE := Lib.hid (txs_at (us := us) (j := j) (by rw [HN.out]; exact hjn))
      clear k hu
      go_wp2_with (go_at_call 43; refine (HK.out _ GW.out).mono ?_; rintro e w5 ⟨rfl, hf5⟩; have B5 := Lib.hid (B.out.fr hf5 id); have y := B5.out.cell j; rw [List.getElem?_toArray, List.getElem?_map, HE.out] at y; replace y : w5.cell? ⟨g1, j, none⟩ = some (.string ByteArray.empty) := y; have fz := B5.out.frozen j)
      go_roundw
      case rel =>
        have HBB : Blk (w5.setCell ⟨g1, j, none⟩ (.string ⟨(hxT u).toArray⟩)) g1 9 ((txs us (j + 1)).map Value.string).toArray := by
          have := B5.out.set_ j (.string ⟨(hxT u).toArray⟩)
          rw [List.setIfInBounds_toArray, ← List.map_set, HS.out] at this
          exact this
        exact ⟨j + 1, by omega, by go_num, HBB, (G.out.trans (hf5.mono fun _ _ h => h.elim)).setCell (.inl rfl) _⟩
      case measure => simp [RowKit.intOf]; omega
    · obtain rfl : j = n := by omega
      have hall : txs us j = us.map fun u => (⟨(hxT u).toArray⟩ : ByteArray) := by rw [← HN.out]; exact txs_all us
      rw [hall] at B
      have hlen : (us.map fun u => (⟨(hxT u).toArray⟩ : ByteArray)).length = j := by rw [List.length_map, HN.out]
      have hmm : (us.map fun u => (⟨(hxT u).toArray⟩ : ByteArray)).map (·.data.toList) = us.map hxT := by simp [List.map_map, Function.comp_def]
      have hJ := Any.strings_Join Tryz.joinL Tryz.joinX g1 0 j (us.map fun u => (⟨(hxT u).toArray⟩ : ByteArray)) ⟨#[58]⟩ wr (fun k x hx => by
        have := B.out.cell (0 + k)
        rw [Nat.zero_add, List.getElem?_toArray, List.getElem?_map, hx] at this
        rw [Nat.zero_add]
        exact this) B.out.lt (by rw [hlen]; omega) (by rw [hlen]; omega) (by
          rw [hmm]
          have := join_le us
          have e : (⟨#[58]⟩ : ByteArray).data.toList = [58] := rfl
          rw [e]
          have := HN.out
          omega)
      rw [hlen, hmm] at hJ
      clear hall hlen hmm
      go_wp2_with (go_at_call 44; refine hJ.mono ?_; rintro e w6 ⟨rfl, hf6⟩)
      go_ret
      exact ⟨rfl, GW.out.trans (Fr.of_below hf6)⟩
end
end Go.Proofs.YtcameghlkplgfaaGreatDoor
namespace Go.Proofs.YtcameghlkplgfaaGreatDoor
open Go.Proofs Go.Shelf Go.RowKit
/-- A group of an address. -/
def grA (a : Ad) (k : Nat) : Nat := if k < 4 then a.hi / 2 ^ (48 - 16 * k) % 65536 else a.lo / 2 ^ (48 - 16 * (k - 4)) % 65536
/-- The groups of an address. -/
def gsA (a : Ad) : List Nat := (List.range 8).map (grA a)
/-- Those that are written once j rounds are done. -/
def spA (a : Ad) (j : Nat) : List Value := (List.range 8).map fun k => .int .u16 ((if k % 4 < j then grA a k else 0 : Nat) : Int)
theorem grA_lt (a : Ad) (k : Nat) : grA a k < 65536 := by unfold grA; split <;> omega
theorem spA_len (a : Ad) (j : Nat) : (spA a j).length = 8 := by simp [spA]
theorem spA_at {a : Ad} {j k : Nat} (hk : k < 8) : (spA a j)[k]? = some (.int .u16 ((if k % 4 < j then grA a k else 0 : Nat) : Int)) := by
  unfold spA
  rw [List.getElem?_map, List.getElem?_range hk]
  rfl
theorem spA_set {a : Ad} {j : Nat} (hj : j < 4) : ((spA a j).set j (.int .u16 (grA a j : Int))).set (4 + j) (.int .u16 (grA a (4 + j) : Int)) = spA a (j + 1) := by
  apply List.ext_getElem?
  intro k
  by_cases hk : k < 8
  · rw [List.getElem?_set, List.getElem?_set, spA_at hk, spA_at hk, List.length_set, spA_len]
    by_cases e : 4 + j = k
    · subst e
      rw [if_pos rfl, if_pos (by omega), if_pos (by omega)]
    · rw [if_neg e]
      by_cases e2 : j = k
      · subst e2
        rw [if_pos rfl, if_pos (by omega), if_pos (by omega)]
      · rw [if_neg e2]
        by_cases h2 : k % 4 < j
        · rw [if_pos h2, if_pos (by omega)]
        · rw [if_neg h2, if_neg (by omega)]
  · rw [List.getElem?_eq_none (by simp [spA]; omega), List.getElem?_eq_none (by simp [spA]; omega)]
theorem spA_all (a : Ad) : spA a 4 = (gsA a).map fun u : Nat => Value.int .u16 (u : Int) := by
  unfold spA gsA
  rw [List.map_map]
  refine List.map_congr_left fun k hk => ?_
  have : k % 4 < 4 := Nat.mod_lt _ (by omega)
  rw [if_pos this]
  rfl
theorem wr16 {x n : Nat} : IntKind.u16.wrap ((x : Int) / 2 ^ n) = ((x / 2 ^ n % 65536 : Nat) : Int) := by
  have e : ((x : Int) / 2 ^ n) = ((x / 2 ^ n : Nat) : Int) := by simp
  rw [e, IntKind.wrap_u16]
  omega
section
variable {w : World}
set_option maxHeartbeats 3200000 in
set_option maxRecDepth 100000 in
theorem split_ (a : Ad) : Calls Tryz.prog 45 #[adV a] w fun e w' => e = .returned (.agg ((gsA a).map fun u : Nat => Value.int .u16 (u : Int)).toArray) ∧ Fr N0 w w' := by
  obtain ⟨s, h, l⟩ := a
  have z8 : (#[.int .u16 0, .int .u16 0, .int .u16 0, .int .u16 0, .int .u16 0, .int .u16 0, .int .u16 0, .int .u16 0] : Array Value) = (spA ⟨s, h, l⟩ 0).toArray := by rfl
  go_enter Tryz.func45, Tryz.ntmps45
  unfold adV
  go_wp2_with fail
  rw [show (World.alloc (World.alloc (w.alloc _) _) _) = (World.alloc (World.alloc (w.alloc (.cells #[.bool s, .int .u64 (h : Int), .int .u64 (l : Int)] 24)) (.cells (spA ⟨s, h, l⟩ 0).toArray 72)) (.cells (spA ⟨s, h, l⟩ 0).toArray 72)) by rw [← z8]]
  have HF1 := Lib.hid (Fr.alloc (Fr.alloc (Fr.alloc (Fr.refl N0 w) (.cells #[.bool s, .int .u64 (h : Int), .int .u64 (l : Int)] 24)) (.cells (spA ⟨s, h, l⟩ 0).toArray 72)) (.cells (spA ⟨s, h, l⟩ 0).toArray 72))
  have HA1 := Lib.hid (((Blk.new w 24 #[.bool s, .int .u64 (h : Int), .int .u64 (l : Int)]).alloc (.cells (spA ⟨s, h, l⟩ 0).toArray 72)).alloc (.cells (spA ⟨s, h, l⟩ 0).toArray 72))
  have HA2 := Lib.hid ((Blk.alloc2 w (.cells #[.bool s, .int .u64 (h : Int), .int .u64 (l : Int)] 24) 72 (spA ⟨s, h, l⟩ 0).toArray).alloc (.cells (spA ⟨s, h, l⟩ 0).toArray 72))
  have HA3 := Lib.hid (Blk.alloc3 w (.cells #[.bool s, .int .u64 (h : Int), .int .u64 (l : Int)] 24) (.cells (spA ⟨s, h, l⟩ 0).toArray 72) 72 (spA ⟨s, h, l⟩ 0).toArray)
  generalize World.alloc (World.alloc (w.alloc _) _) _ = w1 at *
  obtain ⟨g3, hg3⟩ : ∃ g, g = w.heap.size + 2 := ⟨_, rfl⟩
  rw [← hg3] at HA3 ⊢
  obtain ⟨g2, hg2⟩ : ∃ g, g = w.heap.size + 1 := ⟨_, rfl⟩
  rw [← hg2] at HA2 ⊢
  obtain ⟨g1, hg1⟩ : ∃ g, g = w.heap.size := ⟨_, rfl⟩
  rw [← hg1] at HA1 ⊢
  have N13 := Lib.hid (show g1 ≠ g3 by omega)
  have N23 := Lib.hid (show g2 ≠ g3 by omega)
  have HG3 := Lib.hid (show w.heap.size ≤ g3 by omega)
  have HG2 := Lib.hid (show w.heap.size ≤ g2 by omega)
  clear hg1 hg2 hg3 z8
  go_loopw [5] (fun i wr => ∃ j : Nat, j ≤ 4 ∧ i = .int .i64 (j : Int) ∧ Blk wr g3 72 (spA ⟨s, h, l⟩ j).toArray ∧ Fr (fun i => i = g3) w1 wr) (fun i _ => 5 - (intOf i).toNat)
  case atStart => exact ⟨0, by omega, rfl, HA3.out, Fr.refl _ _⟩
  case round =>
    obtain ⟨j, hj, rfl, hb, hF⟩ := hrel
    have B := Lib.hid hb
    have G := Lib.hid hF
    have GW := Lib.hid (HF1.out.step hF fun i hi => .inr (hi ▸ HG3.out))
    have B1 := Lib.hid (HA1.out.fr hF N13.out)
    have B2 := Lib.hid (HA2.out.fr hF N23.out)
    obtain ⟨z0, z1, z2⟩ := B1.out.c3
    clear hb hF
    by_cases hj4 : j < 4
    · have hjI : (j : Int) < 4 := by omega
      have fz1 := B.out.frozen j
      have fz2 := B.out.frozen (4 + j)
      have y1 := B.out.cell j
      rw [List.getElem?_toArray, spA_at (by omega)] at y1
      have y2 := B.out.cell (4 + j)
      rw [List.getElem?_toArray, spA_at (by omega)] at y2
      have n13 := N13.out
      have n31 := N13.out.symm
      have n4 : 4 + j ≠ j := by omega
      go_wp2_with fail
      refine ⟨⟨j + 1, by omega, by go_num, ?_, (G.out.setCell (.inl rfl) _).setCell (.inl rfl) _⟩, by simp [RowKit.intOf]; omega⟩
      have e1 : grA ⟨s, h, l⟩ j = h / 2 ^ (48 - 16 * j) % 65536 := by simp only [grA, if_pos hj4]
      have e2 : grA ⟨s, h, l⟩ (4 + j) = l / 2 ^ (48 - 16 * j) % 65536 := by
        simp only [grA, if_neg (show ¬ (4 + j < 4) by omega), show 4 + j - 4 = j by omega]
      have := (B.out.set_ j (.int .u16 (grA ⟨s, h, l⟩ j : Int))).set_ (4 + j) (.int .u16 (grA ⟨s, h, l⟩ (4 + j) : Int))
      rw [List.setIfInBounds_toArray, List.setIfInBounds_toArray, spA_set hj4, e1, e2] at this
      rw [wr16, wr16]
      exact this
    · obtain rfl : j = 4 := by omega
      obtain ⟨cs, hcs⟩ : ∃ cs, cs = (spA ⟨s, h, l⟩ 4).toArray := ⟨_, rfl⟩
      have HCS := Lib.hid hcs
      have hsz : cs.size = 8 := by rw [hcs]; simp [spA_len]
      have hon : cs.all (·.oneCell') = true := by rw [hcs]; simp [spA, Value.oneCell']
      have hsz0 : (spA ⟨s, h, l⟩ 0).toArray.size = 8 := by simp [spA_len]
      rw [← hcs] at B
      have HS := Lib.hid (show (Tryz.prog.info? 72).map (·.size) = some cs.size by rw [hsz]; kernel_rfl)
      have HO := Lib.hid (show (spA ⟨s, h, l⟩ 0).toArray.size = cs.size by rw [hsz, hsz0])
      have HN := Lib.hid hon
      clear hcs hsz hsz0 hon hj4 hj z0 z1 z2
      go_wp2_with (first
        | (refine wpList_load_row rfl 72 (.tmp 3) rfl g3 rfl 72 _ (0, 0) _ B.out Tryz.underlying72 rfl HS.out ?_)
        | (refine wpList_store_row rfl 72 _ _ rfl g2 _ rfl rfl _ _ B2.out HS.out HO.out HN.out ?_))
      refine bodyPost_ret_by (results_cell_row rfl _ _ g2 72 cs (0, 0) _ rfl (B2.out.row _) Tryz.underlying72 rfl HS.out) rfl ⟨?_, Fr.setRow GW.out (.inr HG2.out) _⟩
      rw [HCS.out, spA_all]
end
end Go.Proofs.YtcameghlkplgfaaGreatDoor
namespace Go.Proofs.YtcameghlkplgfaaGreatDoor
open Go.Proofs Go.Shelf Go.RowKit
/-- How many groups of 0 stand from a place on. -/
def zr (us : List Nat) : Nat → Nat → Nat
  | _, 0 => 0
  | i, n + 1 => if us[i]? = some 0 then zr us (i + 1) n + 1 else 0
theorem zr_is (us : List Nat) : ∀ (d i n : Nat), d ≤ n → (∀ t, t < d → us[i + t]? = some 0) → us[i + d]? ≠ some 0 → zr us i n = d
  | 0, i, 0, _, _, _ => rfl
  | 0, i, n + 1, _, _, h => by
    unfold zr
    exact if_neg h
  | d + 1, i, 0, h, _, _ => by omega
  | d + 1, i, n + 1, h, hz, hn => by
    unfold zr
    have h0 : us[i]? = some 0 := hz 0 (by omega)
    rw [if_pos h0, zr_is us d (i + 1) n (by omega) (fun t ht => by rw [show i + 1 + t = i + (t + 1) by omega]; exact hz (t + 1) (by omega)) (by rw [show i + 1 + d = i + (d + 1) by omega]; exact hn)]
/-- The longest one among those that begin below a place. -/
def gapS (us : List Nat) : Nat → Nat × Nat
  | 0 => (0, 0)
  | i + 1 => if (gapS us i).2 - (gapS us i).1 < zr us i 8 then (i, i + zr us i 8) else gapS us i
def gapP (us : List Nat) : Nat × Nat := if us = List.replicate 8 0 then (0, 8) else if (gapS us 8).2 - (gapS us 8).1 < 2 then (0, 0) else gapS us 8
theorem zr_le (us : List Nat) (h8 : us.length = 8) : ∀ n i, i ≤ 8 → i + zr us i n ≤ 8
  | 0, i, h => by unfold zr; omega
  | n + 1, i, h => by
    unfold zr
    split
    · rename_i h2
      have : i < us.length := (List.getElem?_eq_some_iff.1 h2).1
      have := zr_le us h8 n (i + 1) (by omega)
      omega
    · omega
theorem gapS_le (us : List Nat) (h8 : us.length = 8) : ∀ i, i ≤ 8 → (gapS us i).1 ≤ (gapS us i).2 ∧ (gapS us i).2 ≤ 8
  | 0, _ => by unfold gapS; omega
  | i + 1, h => by
    have h1 := gapS_le us h8 i (by omega)
    have h2 := zr_le us h8 8 i (by omega)
    unfold gapS
    split
    · simp only; omega
    · exact h1
theorem gapP_le (us : List Nat) (h8 : us.length = 8) : (gapP us).1 ≤ (gapP us).2 ∧ (gapP us).2 ≤ 8 := by
  unfold gapP
  split
  · simp
  · split
    · simp
    · exact gapS_le us h8 8 (Nat.le_refl _)
def g16v (u : Nat) : Value := .int .u16 (u : Int)
set_option maxRecDepth 100000 in
theorem eql_gr (us : List Nat) (h8 : us.length = 8) (W : World) : (binOp .eql 72 (.agg (us.map g16v).toArray) (.agg #[.int .u16 0, .int .u16 0, .int .u16 0, .int .u16 0, .int .u16 0, .int .u16 0, .int .u16 0, .int .u16 0])).run Tryz.prog W = .ok (.bool (decide (us = List.replicate 8 0))) W := by
  match us, h8 with
  | [a, b, c, d, e, f, g, h], _ =>
    have u6 := Tryz.underlying70
    have a6 := Tryz.isAgg70
    have z6 := Tryz.sizeOf70
    have hc : Tryz.prog.cellsOf 70 = 1 := by kernel_rfl
    obtain ⟨i, hi⟩ : ∃ i, Tryz.prog.info? 70 = some i := by
      cases hh : Tryz.prog.info? 70 with
      | none => exact absurd hh (by have : (Tryz.prog.info? 70).isSome = true := by kernel_rfl
                                    intro h2; rw [h2] at this; cases this)
      | some i => exact ⟨i, rfl⟩
    rw [run_eql_struct, show (10000 : Nat) = 9999 + 1 from rfl, run_equalIn_array W 9999 _ _ Tryz.underlying72 hi, hc]
    have er : List.range 8 = [0, 1, 2, 3, 4, 5, 6, 7] := rfl
    rw [er]
    simp only [Op.eqItems, g16v, List.map_cons, List.map_nil]
    clear hi hc er
    go_simp
    repeat' split
    all_goals simp_all
section
variable {w : World}
set_option maxHeartbeats 3200000 in
set_option maxRecDepth 100000 in
theorem gap_ (us : List Nat) (h8 : us.length = 8) (hu16 : ∀ u ∈ us, u < 65536) : Calls Tryz.prog 46 #[.agg (us.map g16v).toArray] w fun e w' => e = .returned (.tuple #[.int .i64 ((gapP us).1 : Int), .int .i64 ((gapP us).2 : Int)]) ∧ Fr N0 w w' := by
  have HE := Lib.hid (eql_gr us h8)
  obtain ⟨cs, hcs⟩ : ∃ cs, cs = (us.map g16v).toArray := ⟨_, rfl⟩
  have HC := Lib.hid hcs
  have hsz : cs.size = 8 := by rw [hcs]; simp [h8]
  have HS := Lib.hid (show (Tryz.prog.info? 72).map (·.size) = some cs.size by rw [hsz]; kernel_rfl)
  have H8 := Lib.hid h8
  have HU := Lib.hid hu16
  rw [← hcs] at HE ⊢
  clear hcs hsz h8 hu16
  have HB := Lib.hid (Blk.new w 72 cs)
  have HF := Lib.hid (Fr.alloc (Fr.refl N0 w) (.cells cs 72))
  by_cases hall : us = List.replicate 8 0
  · have hE : ∀ W, (binOp .eql 72 (.agg cs) (.agg #[.int .u16 0, .int .u16 0, .int .u16 0, .int .u16 0, .int .u16 0, .int .u16 0, .int .u16 0, .int .u16 0])).run Tryz.prog W = .ok (.bool true) W := fun W => by rw [HE.out W, decide_eq_true hall]
    have hG : ∀ W X Y, (eqGuard .eql 72 X Y (.agg cs) (.agg #[.int .u16 0, .int .u16 0, .int .u16 0, .int .u16 0, .int .u16 0, .int .u16 0, .int .u16 0, .int .u16 0])).run Tryz.prog W = .ok () W := fun W X Y => run_eqGuard_agg W .eql _ X Y _ _ (by kernel_rfl)
    have e : gapP us = (0, 8) := by unfold gapP; rw [if_pos hall]
    rw [e]
    clear hall e
    go_enter Tryz.func46, Tryz.ntmps46
    go_wp2_with (first
      | (refine wpList_load_row rfl 72 (.tmp 1) rfl w.heap.size rfl 72 _ (0, 0) _ HB.out Tryz.underlying72 rfl HS.out ?_))
    go_ret2
    exact ⟨rfl, HF.out⟩
  · have hE : ∀ W, (binOp .eql 72 (.agg cs) (.agg #[.int .u16 0, .int .u16 0, .int .u16 0, .int .u16 0, .int .u16 0, .int .u16 0, .int .u16 0, .int .u16 0])).run Tryz.prog W = .ok (.bool false) W := fun W => by rw [HE.out W, decide_eq_false hall]
    have hG : ∀ W X Y, (eqGuard .eql 72 X Y (.agg cs) (.agg #[.int .u16 0, .int .u16 0, .int .u16 0, .int .u16 0, .int .u16 0, .int .u16 0, .int .u16 0, .int .u16 0])).run Tryz.prog W = .ok () W := fun W X Y => run_eqGuard_agg W .eql _ X Y _ _ (by kernel_rfl)
    have e : gapP us = if (gapS us 8).2 - (gapS us 8).1 < 2 then (0, 0) else gapS us 8 := by unfold gapP; rw [if_neg hall]
    rw [e]
    have HL := Lib.hid (gapS_le us H8.out)
    have HZ := Lib.hid (zr_le us H8.out)
    have HX : Hid (∀ (k u : Nat), us[k]? = some u → (w.alloc (.cells cs 72)).cell? ⟨w.heap.size, k, none⟩ = some (.int .u16 (u : Int))) := Lib.hid fun k u hk => by
      have := HB.out.cell k
      rw [HC.out, List.getElem?_toArray, List.getElem?_map, hk] at this
      rw [HC.out]
      exact this
    clear hall e
    go_enter Tryz.func46, Tryz.ntmps46
    go_wp2_with (first
      | (refine wpList_load_row rfl 72 (.tmp 1) rfl w.heap.size rfl 72 _ (0, 0) _ HB.out Tryz.underlying72 rfl HS.out ?_))
    clear hE hG HB HE HS HC
    generalize w.alloc _ = w1 at *
    generalize w.heap.size = g at *
    go_loop [4, 5, 11] (fun a b i => ∃ n : Nat, n ≤ 8 ∧ i = .int .i64 (n : Int) ∧ a = .int .i64 ((gapS us n).1 : Int) ∧ b = .int .i64 ((gapS us n).2 : Int)) (fun _ _ i => 9 - (intOf i).toNat)
    case atStart => exact ⟨0, by omega, rfl, rfl, rfl⟩
    case round =>
      obtain ⟨n, hn, rfl, rfl, rfl⟩ := hrel
      have hle := HL.out n hn
      by_cases hn8 : n < 8
      · have hnI : (n : Int) < 8 := by omega
        go_wp2_with fail
        go_loop [7] (fun k => ∃ d : Nat, n + d ≤ 8 ∧ k = .int .i64 ((n : Int) + (d : Int)) ∧ Hid (∀ t, t < d → us[n + t]? = some 0)) (fun k => 9 - (intOf k).toNat)
        case atStart => exact ⟨0, by omega, by simp, Lib.hid fun t ht => by omega⟩
        case round =>
          obtain ⟨d, hd, rfl, hz⟩ := hrel
          by_cases h8 : n + d < 8
          · have hdI : (n : Int) + (d : Int) < 8 := by omega
            obtain ⟨u, hu⟩ : ∃ u, us[n + d]? = some u := ⟨_, List.getElem?_eq_getElem (by rw [H8.out]; exact h8)⟩
            have hx := HX.out _ _ hu
            have HU2 := Lib.hid hu
            clear hu
            by_cases h0 : u = 0
            · subst h0
              go_wp2_with fail
              refine ⟨⟨d + 1, by omega, by go_num, Lib.hid fun t ht => ?_⟩, by simp [RowKit.intOf]; omega⟩
              by_cases e : t = d
              · rw [e]; exact HU2.out
              · exact hz.out t (by omega)
            · have h0I : ((u : Int) == 0) = false := by simp; omega
              have hzr : zr us n 8 = d := zr_is us d n 8 (by omega) hz.out (by rw [HU2.out]; simp [h0])
              have HGS := Lib.hid (show gapS us (n + 1) = if (gapS us n).2 - (gapS us n).1 < d then (n, n + d) else gapS us n by rw [← hzr]; rfl)
              clear hzr h0
              go_wp2_with fail
              all_goals refine ⟨⟨n + 1, by omega, by go_num, ?_, ?_⟩, by simp [RowKit.intOf]; omega⟩
              all_goals rw [HGS.out]
              all_goals first | (rw [if_pos (by omega)]; done) | (rw [if_pos (by omega)]; simp; done) | (rw [if_neg (by omega)])
          · obtain hde : n + d = 8 := by omega
            have hzr : zr us n 8 = d := zr_is us d n 8 (by omega) hz.out (by rw [List.getElem?_eq_none (by have := H8.out; omega)]; simp)
            have HGS := Lib.hid (show gapS us (n + 1) = if (gapS us n).2 - (gapS us n).1 < d then (n, n + d) else gapS us n by rw [← hzr]; rfl)
            clear hzr
            go_wp2_with fail
            all_goals refine ⟨⟨n + 1, by omega, by go_num, ?_, ?_⟩, by simp [RowKit.intOf]; omega⟩
            all_goals rw [HGS.out]
            all_goals first | (rw [if_pos (by omega)]; done) | (rw [if_pos (by omega)]; simp; done) | (rw [if_neg (by omega)])
      · obtain rfl : n = 8 := by omega
        go_wp2_with fail
        all_goals go_ret2
        all_goals exact ⟨rfl, HF.out⟩
end
end Go.Proofs.YtcameghlkplgfaaGreatDoor
namespace Go.Proofs.YtcameghlkplgfaaGreatDoor
open Go.Proofs Go.Shelf Go.RowKit
/-- What groups are told as. -/
def txt6 (us : List Nat) : ByteArray := if (gapP us).2 = 0 then txG us else txG (us.take (gapP us).1) ++ ⟨#[58, 58]⟩ ++ txG (us.drop (gapP us).2)
theorem txG_size (us : List Nat) : (txG us).size ≤ 5 * us.length := by
  have := join_le us
  have e : (txG us).size = (Lib.join (us.map hxT) [58]).length := by simp [txG, ByteArray.size]
  omega
theorem gsA_len (a : Ad) : (gsA a).length = 8 := by simp [gsA]
theorem gsA_lt (a : Ad) : ∀ u ∈ gsA a, u < 65536 := by
  intro u hu
  unfold gsA at hu
  obtain ⟨k, _, rfl⟩ := List.mem_map.1 hu
  exact grA_lt a k
section
variable {w : World}
set_option maxHeartbeats 3200000 in
set_option maxRecDepth 100000 in
theorem prt6 (h l : Nat) (hd : D4 w) : Calls Tryz.prog 23 #[adV ⟨true, h, l⟩] w fun e w' => e = .returned (.string (txt6 (gsA ⟨true, h, l⟩))) ∧ Fr N0 w w' := by
  have k29 : ∀ (w : World), Calls Tryz.prog 27 #[.agg #[.bool true, .int .u64 (h : Int), .int .u64 (l : Int)]] w fun e w' => e = .returned (.bool true) ∧ Fr N0 w w' := fun w => aval (w := w) ⟨true, h, l⟩
  obtain ⟨us, hus⟩ : ∃ us, us = gsA ⟨true, h, l⟩ := ⟨_, rfl⟩
  have h8 : us.length = 8 := by rw [hus]; exact gsA_len _
  have hlt : ∀ u ∈ us, u < 65536 := by rw [hus]; exact gsA_lt _
  obtain ⟨cs, hcs⟩ : ∃ cs, cs = (us.map g16v).toArray := ⟨_, rfl⟩
  have k51 : ∀ (w : World), Calls Tryz.prog 45 #[.agg #[.bool true, .int .u64 (h : Int), .int .u64 (l : Int)]] w fun e w' => e = .returned (.agg cs) ∧ Fr N0 w w' := fun w => by
    have := split_ (w := w) ⟨true, h, l⟩
    rw [← hus] at this
    rw [hcs]
    exact this
  have hgl := gapP_le us h8
  have k52 : ∀ (w : World), Calls Tryz.prog 46 #[.agg cs] w fun e w' => e = .returned (.tuple #[.int .i64 ((gapP us).1 : Int), .int .i64 ((gapP us).2 : Int)]) ∧ Fr N0 w w' := fun w => by
    rw [hcs]
    exact gap_ (w := w) us h8 hlt
  rw [← hus]
  unfold txt6
  obtain ⟨f, hf⟩ : ∃ f, f = (gapP us).1 := ⟨_, rfl⟩
  obtain ⟨t, ht⟩ : ∃ t, t = (gapP us).2 := ⟨_, rfl⟩
  rw [← hf, ← ht] at k52 hgl ⊢
  have hsz : cs.size = 8 := by rw [hcs]; simp [h8]
  have hon : cs.all (·.oneCell') = true := by
    rw [hcs]
    simp [g16v, Value.oneCell']
  have HS := Lib.hid (show (Tryz.prog.info? 72).map (·.size) = some cs.size by rw [hsz]; kernel_rfl)
  have HO := Lib.hid hon
  have H8 := Lib.hid hsz
  have HA : Hid (∀ (k u : Nat), us[k]? = some u → cs[k]? = some (.int .u16 (u : Int))) := Lib.hid fun k u hk => by
    rw [hcs, List.getElem?_toArray, List.getElem?_map, hk]
    rfl
  have HL := Lib.hid hlt
  have HU8 := Lib.hid h8
  have hal : Tryz.prog.arrayLen 72 = 8 := by simp [Program.arrayLen, Tryz.underlying72]
  have hu : Tryz.prog.underlying 72 = some (.array (Tryz.prog.arrayLen 72) (Tryz.prog.elem 72)) := by simp [Program.arrayLen, Program.elem, Tryz.underlying72]
  have hsl0 : ∀ (W : World) (g : Nat), (Instr.sliceAt 72 (.pointer (some ⟨g, 0, none⟩)) none none none).run Tryz.prog W = .ok (.slice (some ⟨g, 0, none⟩) 8 8) W := fun W g => by
    rw [run_sliceAt_array_all W 72 ⟨g, 0, none⟩ hu, hal]
    clear hu hal
    go_simp
  have hsl1 : ∀ (W : World) (g : Nat), (Instr.sliceAt 72 (.pointer (some ⟨g, 0, none⟩)) none (some (.int .i64 (f : Int))) none).run Tryz.prog W = .ok (.slice (some ⟨g, 0, none⟩) f 8) W := fun W g => by
    rw [run_sliceAt_array_h W 72 ⟨g, 0, none⟩ hu .i64 (f : Int) (by omega) (by rw [hal]; omega), hal]
    have e : ((f : Int)).toNat = f := Int.toNat_natCast _
    rw [e]
    clear hu hal
    go_simp
  obtain ⟨o, ho⟩ : ∃ o, o = if t = 8 then 0 else t := ⟨_, rfl⟩
  have hsl2 : ∀ (W : World) (g : Nat), (Instr.sliceAt 72 (.pointer (some ⟨g, 0, none⟩)) (some (.int .i64 (t : Int))) none none).run Tryz.prog W = .ok (.slice (some ⟨g, o, none⟩) (8 - t) (8 - t)) W := fun W g => by
    rw [run_sliceAt_array_l W 72 ⟨g, 0, none⟩ hu .i64 (t : Int) (by omega) (by rw [hal]; omega), hal]
    have e : ((t : Int)).toNat = t := Int.toNat_natCast _
    rw [e, ho]
    clear hu hal
    by_cases h8 : t = 8
    · subst h8
      go_simp
    · have h9 : ¬ (8 = t) := by omega
      simp only [slicedAt, if_neg h8, if_neg h9]
      go_simp
  have HD := Lib.hid hd
  clear hus hcs h8 hlt hsz hon hal hu hf ht hd
  by_cases ht0 : t = 0
  · rw [if_pos ht0]
    subst ht0
    go_enter Tryz.func23, Tryz.ntmps23
    unfold adV
    go_wp2_with fail
    have HA1 := Lib.hid (Blk.new w 24 #[Value.bool true, Value.int .u64 (h : Int), Value.int .u64 (l : Int)])
    have HF1 := Lib.hid (Fr.alloc (Fr.refl N0 w) (.cells #[Value.bool true, Value.int .u64 (h : Int), Value.int .u64 (l : Int)] 24))
    generalize w.alloc _ = w1 at *
    obtain ⟨g1, hg1⟩ : ∃ g1, g1 = w.heap.size := ⟨_, rfl⟩
    rw [← hg1] at HA1 ⊢
    have HG1 : Hid (w.heap.size ≤ g1) := Lib.hid (by omega)
    clear hg1
    have HZ1 : Hid (∀ W, Fr N0 w1 W → Blk W g1 24 #[Value.bool true, Value.int .u64 (h : Int), Value.int .u64 (l : Int)]) := Lib.hid fun W hf => HA1.out.fr hf id
    have F := Lib.hid (Fr.refl N0 w1)
    obtain ⟨z1_0, z1_1, z1_2⟩ := (HZ1.out _ F.out).c3
    go_wp2_with (first
      | (go_at_call 27; refine (k29 _).mono ?_; rintro e w2 ⟨rfl, hf⟩; have F := Lib.hid (F.out.trans hf); obtain ⟨z1_0, z1_1, z1_2⟩ := (HZ1.out _ F.out).c3)
      | (go_at_call 45; refine (k51 _).mono ?_; rintro e w3 ⟨rfl, hf3⟩)
      | (refine wpList_store_row rfl 72 _ _ rfl w3.heap.size _ rfl rfl _ _ (Blk.new w3 72 #[.int .u16 0, .int .u16 0, .int .u16 0, .int .u16 0, .int .u16 0, .int .u16 0, .int .u16 0, .int .u16 0]) HS.out (by rw [H8.out]; rfl) HO.out ?_)
      | (refine wpList_load_row rfl 72 (.tmp 5) rfl w3.heap.size rfl 72 _ (0, 0) _ ((Blk.new w3 72 #[.int .u16 0, .int .u16 0, .int .u16 0, .int .u16 0, .int .u16 0, .int .u16 0, .int .u16 0, .int .u16 0]).row cs) Tryz.underlying72 rfl HS.out ?_)
      | (go_at_call 46; refine (k52 _).mono ?_; rintro e w4 ⟨rfl, hf4⟩; have HW3 := Lib.hid ((HF1.out.trans F.out).trans hf3); have B4 := Lib.hid (((Blk.new w3 72 #[.int .u16 0, .int .u16 0, .int .u16 0, .int .u16 0, .int .u16 0, .int .u16 0, .int .u16 0, .int .u16 0]).row cs).fr hf4 id); have F4 := Lib.hid ((Fr.setRow (HW3.out.alloc (.cells #[.int .u16 0, .int .u16 0, .int .u16 0, .int .u16 0, .int .u16 0, .int .u16 0, .int .u16 0, .int .u16 0] 72)) (.inr HW3.out.size) cs).trans hf4); clear hf3 hf4; have HDD := Lib.hid (HD.out.fr F4.out))
      | (go_at_call 47; refine (texts_ w3.heap.size 0 8 8 72 cs us HU8.out (Nat.le_refl _) B4.out (fun k u hk => by rw [Nat.zero_add]; exact HA.out k u hk) HL.out HDD.out).mono ?_; rintro e w6 ⟨rfl, hf6⟩))
    go_ret
    exact ⟨rfl, F4.out.trans hf6⟩
  · rw [if_neg ht0]
    have htb : ((t : Int) == 0) = false := by simp; omega
    have htI : ¬ (t : Int) = 0 := by omega
    have HT := Lib.hid ht0
    have HTK := Lib.hid hgl
    have q1 := fun (g : Nat) (W : World) (hB : Blk W g 72 cs) (hW : D4 W) => texts_ (w := W) g 0 f 8 72 cs (us.take f) (by rw [List.length_take, HU8.out]; omega) (by omega) hB (fun k u hk => by
      rw [Nat.zero_add]
      exact HA.out k u (by rw [List.getElem?_take] at hk; split at hk; exact hk; cases hk)) (fun u hu => HL.out u (List.mem_of_mem_take hu)) hW
    have q2 := fun (g : Nat) (W : World) (hB : Blk W g 72 cs) (hW : D4 W) => texts_ (w := W) g o (8 - t) (8 - t) 72 cs (us.drop t) (by rw [List.length_drop, HU8.out]) (by omega) hB (fun k u hk => by
      have h1 : us[t + k]? = some u := by rw [List.getElem?_drop] at hk; exact hk
      have h2 : t + k < us.length := (List.getElem?_eq_some_iff.1 h1).1
      rw [HU8.out] at h2
      rw [ho, if_neg (by omega)]
      exact HA.out _ u h1) (fun u hu => HL.out u (List.mem_of_mem_drop hu)) hW
    have hA : (txG (us.take f)).size ≤ 40 := by have := txG_size (us.take f); rw [List.length_take, HU8.out] at this; omega
    have hB : (txG (us.drop t)).size ≤ 40 := by have := txG_size (us.drop t); rw [List.length_drop, HU8.out] at this; omega
    generalize txG (us.take f) = A at *
    generalize txG (us.drop t) = B at *
    have Q1 := Lib.hid q1
    have Q2 := Lib.hid q2
    clear q1 q2 ho ht0
    go_enter Tryz.func23, Tryz.ntmps23
    unfold adV
    go_wp2_with fail
    have HA1 := Lib.hid (Blk.new w 24 #[Value.bool true, Value.int .u64 (h : Int), Value.int .u64 (l : Int)])
    have HF1 := Lib.hid (Fr.alloc (Fr.refl N0 w) (.cells #[Value.bool true, Value.int .u64 (h : Int), Value.int .u64 (l : Int)] 24))
    generalize w.alloc _ = w1 at *
    obtain ⟨g1, hg1⟩ : ∃ g1, g1 = w.heap.size := ⟨_, rfl⟩
    rw [← hg1] at HA1 ⊢
    have HG1 : Hid (w.heap.size ≤ g1) := Lib.hid (by omega)
    clear hg1
    have HZ1 : Hid (∀ W, Fr N0 w1 W → Blk W g1 24 #[Value.bool true, Value.int .u64 (h : Int), Value.int .u64 (l : Int)]) := Lib.hid fun W hf => HA1.out.fr hf id
    have F := Lib.hid (Fr.refl N0 w1)
    obtain ⟨z1_0, z1_1, z1_2⟩ := (HZ1.out _ F.out).c3
    go_wp2_with (first
      | (go_at_call 27; refine (k29 _).mono ?_; rintro e w2 ⟨rfl, hf⟩; have F := Lib.hid (F.out.trans hf); obtain ⟨z1_0, z1_1, z1_2⟩ := (HZ1.out _ F.out).c3)
      | (go_at_call 45; refine (k51 _).mono ?_; rintro e w3 ⟨rfl, hf3⟩)
      | (refine wpList_store_row rfl 72 _ _ rfl w3.heap.size _ rfl rfl _ _ (Blk.new w3 72 #[.int .u16 0, .int .u16 0, .int .u16 0, .int .u16 0, .int .u16 0, .int .u16 0, .int .u16 0, .int .u16 0]) HS.out (by rw [H8.out]; rfl) HO.out ?_)
      | (refine wpList_load_row rfl 72 (.tmp 5) rfl w3.heap.size rfl 72 _ (0, 0) _ ((Blk.new w3 72 #[.int .u16 0, .int .u16 0, .int .u16 0, .int .u16 0, .int .u16 0, .int .u16 0, .int .u16 0, .int .u16 0]).row cs) Tryz.underlying72 rfl HS.out ?_)
      | (go_at_call 46; refine (k52 _).mono ?_; rintro e w4 ⟨rfl, hf4⟩; have HW3 := Lib.hid ((HF1.out.trans F.out).trans hf3); have B4 := Lib.hid (((Blk.new w3 72 #[.int .u16 0, .int .u16 0, .int .u16 0, .int .u16 0, .int .u16 0, .int .u16 0, .int .u16 0, .int .u16 0]).row cs).fr hf4 id); have F4 := Lib.hid ((Fr.setRow (HW3.out.alloc (.cells #[.int .u16 0, .int .u16 0, .int .u16 0, .int .u16 0, .int .u16 0, .int .u16 0, .int .u16 0, .int .u16 0] 72)) (.inr HW3.out.size) cs).trans hf4); clear hf3 hf4; have HDD := Lib.hid (HD.out.fr F4.out))
      | fail)
    have p1 := fun x : Fam w4 => Q1.out _ x.w (B4.out.fr x.fr id) (HDD.out.fr x.fr)
    have p2 := fun x : Fam w4 => Q2.out _ x.w (B4.out.fr x.fr id) (HDD.out.fr x.fr)
    refine wp_region_fam (by kernel_rfl) (by kernel_rfl) ?_
    repeat (go_big_quiet_step ((first
      | (go_at_call_of 47 f; exact fam_call (p1 _))
      | (go_at_call 47; exact fam_call (p2 _)))))
    first | refine wpQuiet_nil ?_ | (go_big_quiet_want; go_big_quiet_op; done)
    rintro _ ⟨xq, rfl⟩
    go_wp2_with fail
    go_ret
    exact ⟨rfl, F4.out.trans xq.fr⟩
end
end Go.Proofs.YtcameghlkplgfaaGreatDoor
namespace Go.Proofs.YtcameghlkplgfaaGreatDoor
open Go.Proofs Go.Shelf Go.RowKit
def dgl (b n : Nat) : List UInt8 := if _h : n < b ∨ b < 2 then [hd n] else dgl b (n / b) ++ [hd (n % b)]
termination_by n
decreasing_by exact Nat.div_lt_self (by omega) (by omega)
theorem dgl_lo {b n : Nat} (h : n < b) : dgl b n = [hd n] := by rw [dgl, dif_pos (.inl h)]
theorem dgl_hi {b n : Nat} (hb : 2 ≤ b) (h : b ≤ n) : dgl b n = dgl b (n / b) ++ [hd (n % b)] := by rw [dgl, dif_neg (by omega)]
def dgZ (b n : Nat) : List UInt8 := if n = 0 then [] else dgl b n
/-- What is there after some rounds: a number that is left, the digits behind. -/
def DgR (b n k : Nat) (t : List UInt8) : Prop := (k = n ∧ t = []) ∨ (t ≠ [] ∧ dgl b n = dgZ b k ++ t)
theorem DgR.step {b n k : Nat} {t : List UInt8} (hb : 2 ≤ b) (h : DgR b n k t) (hk : t = [] ∨ 0 < k) : DgR b n (k / b) (hd (k % b) :: t) := by
  refine .inr ⟨by simp, ?_⟩
  have key : dgl b k = dgZ b (k / b) ++ [hd (k % b)] := by
    by_cases hlt : k < b
    · rw [dgl_lo hlt, Nat.div_eq_of_lt hlt, Nat.mod_eq_of_lt hlt]
      rfl
    · rw [dgl_hi hb (by omega)]
      have : k / b ≠ 0 := by
        intro e
        have := (Nat.div_eq_zero_iff).1 e
        omega
      unfold dgZ
      rw [if_neg this]
  rcases h with ⟨rfl, rfl⟩ | ⟨ht, h⟩
  · exact key
  · have hk0 : k ≠ 0 := by
      rcases hk with e | e
      · exact absurd e ht
      · omega
    rw [h]
    unfold dgZ at key ⊢
    rw [if_neg hk0, key]
    simp
theorem DgR.done {b n : Nat} {t : List UInt8} (h : DgR b n 0 t) (ht : t ≠ []) : t = dgl b n := by
  rcases h with ⟨_, rfl⟩ | ⟨_, h⟩
  · exact absurd rfl ht
  · rw [h]; rfl
def dg16 : ByteArray := ⟨#[48, 49, 50, 51, 52, 53, 54, 55, 56, 57, 97, 98, 99, 100, 101, 102]⟩
theorem ex16 : ∀ m, m < 16 → dg16.extract m (m + 1) = ⟨#[hd m]⟩ := by decide +kernel
theorem dg_cat {m : Nat} (h : m < 16) (t : List UInt8) : (⟨#[48, 49, 50, 51, 52, 53, 54, 55, 56, 57, 97, 98, 99, 100, 101, 102]⟩ : ByteArray).extract m (m + 1) ++ ⟨t.toArray⟩ = ⟨(hd m :: t).toArray⟩ := by
  have := ex16 m h
  unfold dg16 at this
  rw [this]
  apply ByteArray.ext
  simp
theorem dg_wrap {k b : Nat} (h : k < 18446744073709551616) : IntKind.u64.wrap ((k : Int) / (b : Int)) = ((k / b : Nat) : Int) := by
  have := Nat.div_le_self k b
  rw [show (k : Int) / (b : Int) = ((k / b : Nat) : Int) by simp]
  generalize k / b = q at *
  exact IntWalk.u64_in _ (by omega)
theorem dg_step {k b l : Nat} (hb : 2 ≤ b) : k / b * 2 ^ (l + 1) ≤ k * 2 ^ l := by
  have h1 : k / b * 2 ≤ k := by
    have h1 : k / b ≤ k / 2 := Nat.div_le_div_left hb (by omega)
    omega
  calc k / b * 2 ^ (l + 1) = k / b * 2 * 2 ^ l := by rw [Nat.pow_succ, Nat.mul_comm (2 ^ l) 2, Nat.mul_assoc]
    _ ≤ k * 2 ^ l := Nat.mul_le_mul_right _ h1
section
variable {w : World}
set_option maxHeartbeats 1600000 in
set_option maxRecDepth 100000 in
theorem dgs_ (b n : Nat) (hb : 2 ≤ b) (hb16 : b ≤ 16) (hn : n < 18446744073709551616) : Calls Tryz.prog 26 #[.int .u64 (n : Int), .int .u64 (b : Int)] w fun e w' => e = .returned (.string ⟨(dgl b n).toArray⟩) ∧ w = w' := by
  go_enter Tryz.func26, Tryz.ntmps26
  go_wp2
  go_loop [0, 5] (fun x s => ∃ (k : Nat) (t : List UInt8), k < 18446744073709551616 ∧ x = .int .u64 (k : Int) ∧ s = .string ⟨t.toArray⟩ ∧ DgR b n k t ∧ k * 2 ^ t.length ≤ n) (fun x s => (intOf x).toNat + (match s with | .string t => if t.data.toList = [] then 1 else 0 | _ => 0))
  case atStart => exact ⟨n, [], hn, rfl, rfl, .inl ⟨rfl, rfl⟩, by simp⟩
  case round =>
    obtain ⟨k, t, hk, rfl, rfl, hR, hS⟩ := hrel
    by_cases hg : t = [] ∨ 0 < k
    · have hm : k % b < b := Nat.mod_lt _ (by omega)
      have HR := Lib.hid (hR.step hb hg)
      have HS := Lib.hid (show k / b * 2 ^ (t.length + 1) ≤ n from Nat.le_trans (dg_step hb) hS)
      have HW := Lib.hid (dg_wrap (b := b) hk)
      have HQ := Lib.hid (Nat.div_le_self k b)
      have HD := Lib.hid fun (h : 0 < k) => Nat.div_lt_self h (show 1 < b by omega)
      have HC := Lib.hid (dg_cat (show k % b < 16 by omega) t)
      by_cases ht : t = []
      · subst ht
        clear hR hg hS
        go_wp2
        refine ⟨⟨k / b, hd (k % b) :: [], Nat.lt_of_le_of_lt HQ.out hk, by rw [HW.out], ?_, HR.out, HS.out⟩, ?_⟩
        · exact congrArg Value.string HC.out
        · rw [HW.out]
          simp [intOf]
          rcases Nat.eq_zero_or_pos k with rfl | h
          · simp
          · have := HD.out h
            rw [if_neg (by omega)]
            omega
      · have hk0 : 0 < k := hg.resolve_left ht
        have he : t.isEmpty = false := by cases t <;> simp_all
        have hl : t.length ≤ 100 := by
          rcases Nat.lt_or_ge t.length 64 with h | h
          · omega
          · exfalso
            have h1 : 2 ^ 64 ≤ 2 ^ t.length := Nat.pow_le_pow_right (by omega) h
            have h2 := Nat.le_mul_of_pos_left (2 ^ t.length) hk0
            have h3 : (2 : Nat) ^ 64 = 18446744073709551616 := by decide
            omega
        have HT := Lib.hid ht
        clear hR hg hS ht
        go_wp2
        refine ⟨⟨k / b, hd (k % b) :: t, Nat.lt_of_le_of_lt HQ.out hk, by rw [HW.out], ?_, HR.out, HS.out⟩, ?_⟩
        · exact congrArg Value.string HC.out
        · rw [HW.out]
          simp [intOf]
          have := HD.out hk0
          rw [if_neg (fun h => absurd h.1 (by omega)), if_neg HT.out]
          omega
    · have hk0 : k = 0 := by omega
      have ht : t ≠ [] := fun e => hg (.inl e)
      subst hk0
      have he : t.isEmpty = false := by cases t <;> simp_all
      have HF := Lib.hid (hR.done ht)
      clear hR hg hS ht
      go_wp2
      go_ret
      exact ⟨by rw [← HF.out]; rfl, rfl⟩
end
end Go.Proofs.YtcameghlkplgfaaGreatDoor
namespace Go.Proofs.YtcameghlkplgfaaGreatDoor
open Go.Proofs Go.Shelf Go.RowKit
def u64v (x : Nat) : Value := .int .u64 (x : Int)
/-- A slice of numbers of the call's own, made since w. -/
def Ux (w wr : World) (v : Value) (l : List Nat) : Prop :=
  ∃ A c, v = .slice A l.length c ∧ Own wr 22 1 A l.length c (l.map u64v) ∧ (∀ g, A = some ⟨g, 0, none⟩ → w.heap.size ≤ g) ∧ Fr N0 w wr
theorem Ux.nil_ (w : World) : Ux w w (.slice none 0 0) [] := ⟨none, 0, rfl, Own.nil_ _ _ _, nofun, Fr.refl _ _⟩
theorem info64 : (Tryz.prog.info? 22).map (fun i => (i.zero, i.size, i.bytes)) = some (some (.int .u64 0), 1, 8) := by kernel_rfl
theorem Ux.step {w wr w' : World} {A : Option Addr} {g' c' n x : Nat} {l : List Nat} {X : Int} (G1 : ∀ g, A = some ⟨g, 0, none⟩ → w.heap.size ≤ g) (F1 : Fr N0 w wr) (hn : l.length = n)
    (hO' : Own w' 22 1 (some ⟨g', 0, none⟩) (n + 1) c' (l.map u64v ++ [.int .u64 X])) (hF' : Fr (fun i => A = some ⟨i, 0, none⟩) wr w') (hA' : A = some ⟨g', 0, none⟩ ∨ wr.heap.size ≤ g') (hX : X = (x : Int)) :
    Ux w w' (.slice (some ⟨g', 0, none⟩) (n + 1) c') (l ++ [x]) := by
  subst hX
  refine ⟨some ⟨g', 0, none⟩, c', by rw [List.length_append, hn]; rfl, by rw [List.length_append, hn, List.map_append]; exact hO', ?_, F1.step hF' fun i hi => .inr (G1 i hi)⟩
  intro g e
  rcases hA' with h | h
  · exact G1 g (h.trans e)
  · injection e with e
    injection e with e
    rw [← e]
    exact Nat.le_trans F1.size h
theorem Ux.up {w w2 wr : World} {v : Value} {l : List Nat} (k : Ux w2 wr v l) (hF : Fr N0 w w2) : Ux w wr v l := by
  obtain ⟨A, c, h1, h2, h3, h4⟩ := k
  exact ⟨A, c, h1, h2, fun g e => Nat.le_trans hF.size (h3 g e), hF.trans h4⟩
theorem Ux.mk' {w wr : World} {A : Option Addr} {c n : Nat} {L l : List Nat} (hn : L.length = n) (hl : L = l) (hO : Own wr 22 1 A n c (L.map u64v)) (hg : ∀ g, A = some ⟨g, 0, none⟩ → w.heap.size ≤ g) (hF : Fr N0 w wr) : Ux w wr (.slice A n c) l := by
  subst hl hn
  exact ⟨A, c, rfl, hO, hg, hF⟩
theorem own_u64 {w : World} {A : Option Addr} {n c : Nat} {bs : List Nat} (h : Own w 22 1 A n c (bs.map u64v)) (hn : 0 < n) : ∃ g, A = some ⟨g, 0, none⟩ ∧ ∀ (i x : Nat), bs[i]? = some x → w.cell? ⟨g, i, none⟩ = some (.int .u64 (x : Int)) := by
  rcases h.2 with ⟨_, h0, _⟩ | ⟨g, cur, e, hg, _, _, _, ht⟩
  · omega
  · refine ⟨g, e, fun i x hi => ?_⟩
    have hb : Blk w g 22 cur := hg
    have h1 : (cur.toList.take (n * 1))[i]? = some (u64v x) := by rw [ht, List.getElem?_map, hi]; rfl
    rw [List.getElem?_take] at h1
    split at h1
    · rw [Array.getElem?_toList] at h1
      exact (hb.cell i).trans h1
    · cases h1
theorem gr_by (h l j : Nat) (hj : j < 8) : byteA ⟨true, h, l⟩ (2 * j) * 256 + byteA ⟨true, h, l⟩ (2 * j + 1) = grA ⟨true, h, l⟩ j := by
  unfold byteA grA
  have : j = 0 ∨ j = 1 ∨ j = 2 ∨ j = 3 ∨ j = 4 ∨ j = 5 ∨ j = 6 ∨ j = 7 := by omega
  rcases this with rfl | rfl | rfl | rfl | rfl | rfl | rfl | rfl <;> simp <;> omega
section
variable {w : World}
set_option maxHeartbeats 3200000 in
set_option maxRecDepth 100000 in
theorem grps_ (h l : Nat) (ho : (⟨true, h, l⟩ : Ad).ok) : Calls Tryz.prog 50 #[adV ⟨true, h, l⟩] w fun e w' => ∃ v, e = .returned v ∧ Ux w w' v (gsA ⟨true, h, l⟩) := by
  have hby := fun (w : World) => rbyt (w := w) ⟨true, h, l⟩ ho
  rw [if_pos (by rfl)] at hby
  unfold adV at hby
  obtain ⟨i0, hi, hz0, hz1, hz2⟩ := info_parts info64
  have hcs : ∀ j, j < 16 → (bytesA ⟨true, h, l⟩)[j]? = some (byteA ⟨true, h, l⟩ j) := fun j hj => bytesA_at hj
  have h16 : (bytesA ⟨true, h, l⟩).length = 16 := bytesA_len _
  have hlt := fun j => byteA_lt ⟨true, h, l⟩ j
  have hgr := fun j hj => gr_by h l j hj
  have hgs : gsA ⟨true, h, l⟩ = (List.range 8).map (grA ⟨true, h, l⟩) := rfl
  generalize bytesA ⟨true, h, l⟩ = bs at *
  generalize byteA ⟨true, h, l⟩ = by_ at *
  rw [hgs]
  generalize grA ⟨true, h, l⟩ = gr at *
  have HCS := Lib.hid hcs
  have HLT := Lib.hid hlt
  have HGR := Lib.hid hgr
  have H16 := Lib.hid h16
  clear hcs hlt hgr hgs h16 ho
  go_enter Tryz.func50, Tryz.ntmps50
  unfold adV
  go_wp2_with fail
  have HA1 := Lib.hid (Blk.new w 24 #[Value.bool true, Value.int .u64 (h : Int), Value.int .u64 (l : Int)])
  have HF1 := Lib.hid (Fr.alloc (Fr.refl N0 w) (.cells #[Value.bool true, Value.int .u64 (h : Int), Value.int .u64 (l : Int)] 24))
  generalize w.alloc _ = w1 at *
  obtain ⟨g1, hg1⟩ : ∃ g1, g1 = w.heap.size := ⟨_, rfl⟩
  rw [← hg1] at HA1 ⊢
  have HG1 : Hid (w.heap.size ≤ g1) := Lib.hid (by omega)
  clear hg1
  have HZ1 : Hid (∀ W, Fr N0 w1 W → Blk W g1 24 #[Value.bool true, Value.int .u64 (h : Int), Value.int .u64 (l : Int)]) := Lib.hid fun W hf => HA1.out.fr hf id
  have F := Lib.hid (Fr.refl N0 w1)
  obtain ⟨z1_0, z1_1, z1_2⟩ := (HZ1.out _ F.out).c3
  refine (hby _).mono ?_
  rintro e w3 ⟨v, rfl, A, c, rfl, hO, hg, hf⟩
  have HF3 := Lib.hid (HF1.out.trans hf)
  rw [H16.out] at hO ⊢
  obtain ⟨gb, rfl, hcell⟩ := own_bytes hO (by omega)
  have HCL := Lib.hid (show ∀ j, j < 16 → w3.cell? ⟨gb, j, none⟩ = some (.int .u8 (by_ j : Int)) from fun j hj => hcell j _ (HCS.out j hj))
  clear hO hg hf hcell hby z1_0 z1_1 z1_2 F HZ1 HA1 HG1 HF1
  go_wp2_with fail
  go_loopw [4, 5] (fun v i wr => ∃ j : Nat, j ≤ 8 ∧ i = .int .i64 ((2 * j : Nat) : Int) ∧ Ux w3 wr v ((List.range j).map gr)) (fun _ i _ => 17 - (intOf i).toNat)
  case atStart => exact ⟨0, by omega, rfl, Ux.nil_ _⟩
  case round =>
    obtain ⟨j, hj, rfl, A, c, rfl, hO, hg, hF⟩ := hrel
    obtain ⟨L, hL⟩ : ∃ L, L = (List.range j).map gr := ⟨_, rfl⟩
    rw [← hL] at hO ⊢
    have HLN := Lib.hid (show L.length = j by rw [hL]; simp)
    rw [HLN.out] at hO ⊢
    have HL := Lib.hid hL
    have O1 := Lib.hid hO
    have G1 := Lib.hid hg
    have F1 := Lib.hid hF
    clear hO hg hF hL
    by_cases hj4 : j < 8
    · have hlt0 := World.block_lt_of_cell? _ _ (HCL.out 0 (by omega))
      have y0 : wr.cell? ⟨gb, 2 * j, none⟩ = some (.int .u8 (by_ (2 * j) : Int)) := (F1.out.cell (p := ⟨gb, 2 * j, none⟩) hlt0 id).trans (HCL.out _ (by omega))
      have y1 : wr.cell? ⟨gb, 2 * j + 1, none⟩ = some (.int .u8 (by_ (2 * j + 1) : Int)) := (F1.out.cell (p := ⟨gb, 2 * j + 1, none⟩) hlt0 id).trans (HCL.out _ (by omega))
      have b0 := HLT.out (2 * j)
      have b1 := HLT.out (2 * j + 1)
      have HG := Lib.hid (HGR.out j hj4)
      have e2 : ((2 * j + 1 : Nat) : Int) = ((2 * j : Nat) : Int) + 1 := by omega
      generalize by_ (2 * j) = x at *
      generalize by_ (2 * j + 1) = y at *
      generalize hk : 2 * j = k at *
      have hk8 : k < 16 := by omega
      clear hlt0 e2
      obtain ⟨g', c', w5, hrun, hO', hF', hA'⟩ := run_append1 (P := Tryz.prog) wr.drew 78 78 22 i0 (.int .u64 0) 1 8 Tryz.underlying78 hi hz0 hz1 hz2 rfl (by omega) A j c _ (O1.out.fr (Fr.refl N0 wr).drew fun _ _ h => h) [.int .u64 ((x : Int) * 256 + (y : Int))] rfl (by simp [Value.oneCell']) (by omega) (by omega)
      have hrun' : (Builtin.append_ #[78, 78] 78 #[.slice A j c, .slice (some ⟨wr.heap.size, 0, none⟩) 1 1]).run Tryz.prog (wr.alloc (.cells #[.int .u64 ((x : Int) * 256 + (y : Int))] 22)).drew = .ok (.slice (some ⟨g', 0, none⟩) (j + 1) c') w5 := hrun
      have H := Lib.hid hrun'
      have HB := Lib.hid (Ux.step G1.out F1.out HLN.out hO' (show Fr _ wr w5 from ((Fr.refl _ wr).drew).trans hF') hA' (show _ = ((gr j : Nat) : Int) by rw [← HG.out]; omega))
      clear hrun hrun' hO' hF' hA' hi hz0 hz1 hz2
      have hwr4 : IntKind.u64.wrap (x : Int) = (x : Int) := IntWalk.u64_in _ (by omega)
      have hwr5 : IntKind.u64.wrap (y : Int) = (y : Int) := IntWalk.u64_in _ (by omega)
      have hwr1 : IntKind.u64.wrap ((x : Int) * 256) = (x : Int) * 256 := IntWalk.u64_in _ (by omega)
      have hwr2 : IntKind.u64.wrap ((x : Int) * 256 + (y : Int)) = (x : Int) * 256 + (y : Int) := IntWalk.u64_in _ (by omega)
      have hwr3 : IntKind.i64.wrap ((k : Int) + 1) = (k : Int) + 1 := IntWalk.i64_in _ (by omega)
      have hk0 : 0 ≤ (k : Int) + 1 := by omega
      have hk1 : ((k : Int) + 1).toNat = k + 1 := by omega
      have hkI : (k : Int) < 16 := by omega
      have hkJ : (k : Int) + 1 < 16 := by omega
      go_wp2_with fail
      go_region_law (refine step_append_run rfl (.tmp 12) (.tmp 26) 78 (by rfl) _ _ _ _ (by rfl) (by rfl) H.out ?_)
      all_goals clear hwr1 hwr2 hwr3 hwr4 hwr5 hk0 hk1
      all_goals go_wp2_with fail
      all_goals go_roundw
      all_goals first
        | (case rel => first | exact ⟨j + 1, by omega, by subst hk; go_num, by rw [List.range_succ, List.map_append, ← HL.out]; exact HB.out⟩ | ((repeat apply Exists.intro); exact ⟨⟨j + 1, by omega, by subst hk; go_num, by rw [List.range_succ, List.map_append, ← HL.out]; exact HB.out⟩, rfl⟩))
        | (case measure => simp [intOf]; omega)
    · obtain rfl : j = 8 := by omega
      go_wp2_with fail
      go_ret
      exact ⟨_, rfl, (Ux.mk' HLN.out HL.out O1.out G1.out F1.out).up HF3.out⟩
end
end Go.Proofs.YtcameghlkplgfaaGreatDoor
