/- addr.four of any text. -/
import Derived.Test.YtcameghlkplgfaaGreatDoorNn
import Derived.Test.YtcameghlkplgfaaGreatDoorFo
namespace Go.Proofs.YtcameghlkplgfaaGreatDoor
open Go.Proofs Go.Shelf Go.RowKit
/-- A number of 0 to 255, plainly. -/
def octP (t : List UInt8) : Option Nat := match num10 t with
  | some v => if 255 < v ∨ (1 < t.length ∧ t.head? = some 48) then none else some v
  | none => none
def octs : List (List UInt8) → Option (List Nat)
  | [] => some []
  | t :: r => match octP t, octs r with
    | some u, some us => some (u :: us)
    | _, _ => none
def fourP (ts : List (List UInt8)) : Option Nat := if ts.length = 4 then (octs ts).map acc else none
theorem octP_lt {t : List UInt8} {u : Nat} (h : octP t = some u) : u < 256 := by
  unfold octP at h
  split at h
  · split at h
    · cases h
    · cases h; omega
  · cases h
theorem octs_snoc : ∀ (l : List (List UInt8)) (t : List UInt8), octs (l ++ [t]) = match octs l, octP t with
    | some us, some u => some (us ++ [u])
    | _, _ => none
  | [], t => by
    simp only [List.nil_append, octs]
    cases octP t <;> rfl
  | a :: l, t => by
    simp only [List.cons_append, octs]
    rw [octs_snoc l t]
    cases octP a <;> cases octs l <;> cases octP t <;> rfl
theorem octs_len : ∀ (l : List (List UInt8)) (us : List Nat), octs l = some us → us.length = l.length
  | [], us, h => by cases h; rfl
  | a :: l, us, h => by
    simp only [octs] at h
    cases h1 : octP a with
    | none => rw [h1] at h; cases h
    | some u =>
      cases h2 : octs l with
      | none => rw [h1, h2] at h; cases h
      | some vs =>
        rw [h1, h2] at h
        cases h
        simp [octs_len l vs h2]
theorem octs_lt : ∀ (l : List (List UInt8)) (us : List Nat), octs l = some us → ∀ u ∈ us, u < 256
  | [], us, h, u, hu => by cases h; cases hu
  | a :: l, us, h, u, hu => by
    simp only [octs] at h
    cases h1 : octP a with
    | none => rw [h1] at h; cases h
    | some v =>
      cases h2 : octs l with
      | none => rw [h1, h2] at h; cases h
      | some vs =>
        rw [h1, h2] at h
        cases h
        rcases List.mem_cons.1 hu with rfl | hu
        · exact octP_lt h1
        · exact octs_lt l vs h2 u hu
theorem octs_none : ∀ (l : List (List UInt8)) (j : Nat) (t : List UInt8), l[j]? = some t → octP t = none → octs l = none
  | [], j, t, h, _ => by simp at h
  | a :: l, 0, t, h, hn => by
    simp at h
    subst h
    simp only [octs, hn]
  | a :: l, j + 1, t, h, hn => by
    simp at h
    simp only [octs, octs_none l j t h hn]
    cases octP a <;> rfl
/-- What the machine makes of a number and one more byte. -/
def shl8 (lo u : Nat) : Nat := (lo * 256 % 18446744073709551616) ||| u
theorem shl8_lt {lo u : Nat} (hu : u < 256) : shl8 lo u < 18446744073709551616 := by
  unfold shl8
  exact Nat.or_lt_two_pow (n := 64) (Nat.mod_lt _ (by omega)) (by omega)
theorem shl8_bits {lo u : Nat} (hu : u < 256) : bits .or .u64 (IntKind.u64.wrap ((lo : Int) * 256)) (u : Int) = ((shl8 lo u : Nat) : Int) := by
  have e : IntKind.u64.wrap ((lo : Int) * 256) = ((lo * 256 % 18446744073709551616 : Nat) : Int) := by rw [IntKind.wrap_u64]; omega
  rw [e, bits_or_u64_nat _ _ (Nat.mod_lt _ (by omega)) (by omega)]
  rfl
theorem shl8_small {lo u : Nat} (hl : lo < 72057594037927936) (hu : u < 256) : shl8 lo u = lo * 256 + u := by
  unfold shl8
  rw [Nat.mod_eq_of_lt (by omega), Nat.mul_comm, show (256 : Nat) = 2 ^ 8 from rfl, Nat.two_pow_add_eq_or_of_lt (show u < 2 ^ 8 from hu)]
section
variable {w : World}
set_option maxHeartbeats 6400000 in
set_option maxRecDepth 100000 in
theorem four_ (s : ByteArray) (ts : List ByteArray) (m : Int) (hm : w.cell? ⟨0, 0, none⟩ = some (.int .i64 m)) (hsy : Sy w) (hn63 : ts.length ≤ 4611686018427387904)
    (hsp : ∀ W : World, W.cell? ⟨0, 0, none⟩ = some (.int .i64 m) → Calls Tryz.prog 55 #[.string s, .string ⟨#[46]⟩] W fun e w' => e = .returned (.slice (some ⟨W.heap.size, 0, none⟩) ts.length ts.length) ∧ w' = W.alloc (.cells (ts.map Value.string).toArray 9)) :
    Calls Tryz.prog 34 #[.string s] w fun e w' => ∃ x, e = .returned (.tuple #[adV ⟨false, 0, x⟩, .bool (fourP (ts.map (·.data.toList))).isSome]) ∧ (∀ lo, fourP (ts.map (·.data.toList)) = some lo → x = lo) ∧ Fr N0 w w' := by
  obtain ⟨n, hn⟩ : ∃ n, n = ts.length := ⟨_, rfl⟩
  rw [← hn] at hsp hn63
  have HN := Lib.hid hn
  clear hn
  go_enter Tryz.func34, Tryz.ntmps34
  go_wp2_with fail
  have HF0 := Lib.hid (Fr.alloc (Fr.refl N0 w) (.cells #[.bool false, .int .u64 0, .int .u64 0] 24))
  have hlt0 := World.block_lt_of_cell? _ _ hm
  have HM := Lib.hid ((HF0.out.cell hlt0 id).trans hm)
  have HA2 := Lib.hid (Blk.new w 24 #[.bool false, .int .u64 0, .int .u64 0])
  generalize w.alloc _ = w1 at *
  obtain ⟨g2, hg2⟩ : ∃ g, g = w.heap.size := ⟨_, rfl⟩
  rw [← hg2] at HA2 ⊢
  have HG2 := Lib.hid (Nat.le_of_eq hg2.symm)
  clear hg2 hm hlt0
  go_wp2_with (go_at_call 55; refine (hsp _ HM.out).mono ?_; rintro e w2 ⟨rfl, rfl⟩)
  have HF2 := Lib.hid (Fr.alloc (Fr.alloc HF0.out (.cells (ts.map Value.string).toArray 9)) (.cells #[.bool false, .int .u64 0, .int .u64 0] 24))
  have HB2 := Lib.hid ((HA2.out.alloc (.cells (ts.map Value.string).toArray 9)).alloc (.cells #[.bool false, .int .u64 0, .int .u64 0] 24))
  have HB4 := Lib.hid ((Blk.new w1 9 (ts.map Value.string).toArray).alloc (.cells #[.bool false, .int .u64 0, .int .u64 0] 24))
  have HB5 := Lib.hid (Blk.alloc2 w1 (.cells (ts.map Value.string).toArray 9) 24 #[.bool false, .int .u64 0, .int .u64 0])
  have hlt2 := HA2.out.lt
  have HSY := Lib.hid hsy
  generalize World.alloc (w1.alloc _) _ = w2 at *
  obtain ⟨g5, hg5⟩ : ∃ g, g = w1.heap.size + 1 := ⟨_, rfl⟩
  rw [← hg5] at HB5 ⊢
  obtain ⟨g4, hg4⟩ : ∃ g, g = w1.heap.size := ⟨_, rfl⟩
  rw [← hg4] at HB4 ⊢
  have N25 := Lib.hid (show g2 ≠ g5 by omega)
  have N45 := Lib.hid (show g4 ≠ g5 by omega)
  have HG5 := Lib.hid (show w.heap.size ≤ g5 by have := HF0.out.size; omega)
  clear hg4 hg5 hlt2 hsp hsy
  go_loopw [15] (fun i wr => ∃ (j lo : Nat) (us : List Nat), j ≤ n ∧ i = .int .i64 (j : Int) ∧ lo < 18446744073709551616 ∧ octs ((ts.take j).map (·.data.toList)) = some us ∧ (j ≤ 4 → lo = acc us) ∧ Blk wr g5 24 #[.bool false, .int .u64 0, .int .u64 (lo : Int)] ∧ Fr (fun i => i = g5) w2 wr) (fun i _ => n + 1 - (RowKit.intOf i).toNat)
  case atStart => exact ⟨0, 0, [], by omega, rfl, by omega, rfl, fun _ => rfl, HB5.out, Fr.refl _ _⟩
  case round =>
    obtain ⟨j, lo, us, hj, rfl, hlo, hus, hacc, hb5, hF⟩ := hrel
    have B5 := Lib.hid hb5
    have G := Lib.hid hF
    have B2 := Lib.hid (HB2.out.fr hF N25.out)
    have GW := Lib.hid (HF2.out.step hF fun i hi => .inr (hi ▸ HG5.out))
    have SW := Lib.hid (HSY.out.fr GW.out)
    have HUS := Lib.hid hus
    have HAC := Lib.hid hacc
    clear hb5 hF hus hacc
    by_cases hjn : j < n
    · obtain ⟨t, ht⟩ : ∃ t, ts[j]? = some t := ⟨_, List.getElem?_eq_getElem (by rw [← HN.out]; exact hjn)⟩
      have x0 := (HB4.out.fr G.out N45.out).cell j
      rw [List.getElem?_toArray, List.getElem?_map, ht] at x0
      replace x0 : wr.cell? ⟨g4, j, none⟩ = some (.string t) := x0
      obtain ⟨z0, z1, z2⟩ := B5.out.c3
      have hsnoc : octs ((ts.take (j + 1)).map (·.data.toList)) = match octP t.data.toList with | some u => some (us ++ [u]) | none => none := by
        rw [List.take_add_one, ht, List.map_append, Option.toList_some, List.map_cons, List.map_nil, octs_snoc, HUS.out]
        cases octP t.data.toList <;> rfl
      have hbad : octP t.data.toList = none → fourP (ts.map (·.data.toList)) = none := by
        intro hn
        unfold fourP
        split
        · rw [octs_none _ j t.data.toList (by rw [List.getElem?_map, ht]; rfl) hn]; rfl
        · rfl
      have HSN := Lib.hid hsnoc
      have HBD := Lib.hid hbad
      have hsz : t.data.toList.length = t.size := Lib.size_eq t
      have k := fun W (hW : Sy W) => numb10 (w := W) t hW
      have k66 := k wr SW.out
      have hO : octP t.data.toList = match num10 t.data.toList with | some v => if 255 < v ∨ (1 < t.size ∧ t.data.toList.head? = some 48) then none else some v | none => none := by
        unfold octP
        rw [hsz]
      clear hsnoc hbad ht k hsz
      cases hnum : num10 t.data.toList with
      | none =>
        rw [hnum] at hO k66
        have HX := Lib.hid (HBD.out hO)
        clear hO hnum HBD HSN
        simp only [numT] at k66
        go_wp2_with (first
          | (go_at_call 56; refine k66.mono ?_; rintro e w6 ⟨rfl, hf6⟩; have B6 := Lib.hid (B5.out.fr hf6 id); have C6 := Lib.hid (B2.out.fr hf6 id); have G6 := Lib.hid (G.out.trans (hf6.mono fun _ _ h => h.elim)); have W6 := Lib.hid (GW.out.trans hf6); obtain ⟨y0, y1, y2⟩ := B6.out.c3; have fz := B6.out.frozen 2)
          | (refine wpList_store_row rfl 24 _ _ rfl g2 _ rfl rfl _ _ C6.out rfl rfl (by simp [Value.oneCell']) ?_))
        refine ret_cell2 rfl rfl (C6.out.row _) Tryz.underlying24 rfl ⟨0, by rw [HX.out]; rfl, (fun lo h => by rw [HX.out] at h; cases h), Fr.setRow W6.out (.inr HG2.out) _⟩
      | some v =>
        rw [hnum] at hO k66
        simp only [numT] at k66
        clear hnum
        by_cases h255 : 255 < v
        · have HX := Lib.hid (HBD.out (by rw [hO]; exact if_pos (.inl h255)))
          have hvI : (255 : Int) < (v : Int) := by omega
          clear hO HBD HSN
          go_wp2_with (first
            | (go_at_call 56; refine k66.mono ?_; rintro e w6 ⟨rfl, hf6⟩; have B6 := Lib.hid (B5.out.fr hf6 id); have C6 := Lib.hid (B2.out.fr hf6 id); have G6 := Lib.hid (G.out.trans (hf6.mono fun _ _ h => h.elim)); have W6 := Lib.hid (GW.out.trans hf6); obtain ⟨y0, y1, y2⟩ := B6.out.c3; have fz := B6.out.frozen 2)
            | (refine wpList_store_row rfl 24 _ _ rfl g2 _ rfl rfl _ _ C6.out rfl rfl (by simp [Value.oneCell']) ?_))
          refine ret_cell2 rfl rfl (C6.out.row _) Tryz.underlying24 rfl ⟨0, by rw [HX.out]; rfl, (fun lo h => by rw [HX.out] at h; cases h), Fr.setRow W6.out (.inr HG2.out) _⟩
        · have hd255 : decide ((255 : Int) < (v : Int)) = false := decide_eq_false (by omega)
          have hv256 : v < 256 := by omega
          by_cases h1 : 1 < t.size
          · have ht0 : 0 < t.size := by omega
            have h0t : (0 : Int) < (t.size : Int) := by omega
            have hd1 : (1 : Int) < (t.size : Int) := by omega
            have hH := head_of ht0
            by_cases hz : (t[0]'ht0).toNat = 48
            · have hq : t[0]'ht0 = 48 := UInt8.toNat_inj.1 hz
              have HX := Lib.hid (HBD.out (by rw [hO]; exact if_pos (.inr ⟨h1, by rw [hH, hq]⟩)))
              have e1 : (((t[0]'ht0).toNat : Int) == 48) = true := by simp [hq]
              clear hO HBD HSN hH hz hq
              go_wp2_with (first
                | (go_at_call 56; refine k66.mono ?_; rintro e w6 ⟨rfl, hf6⟩; have B6 := Lib.hid (B5.out.fr hf6 id); have C6 := Lib.hid (B2.out.fr hf6 id); have G6 := Lib.hid (G.out.trans (hf6.mono fun _ _ h => h.elim)); have W6 := Lib.hid (GW.out.trans hf6); obtain ⟨y0, y1, y2⟩ := B6.out.c3; have fz := B6.out.frozen 2)
                | (refine wpList_store_row rfl 24 _ _ rfl g2 _ rfl rfl _ _ C6.out rfl rfl (by simp [Value.oneCell']) ?_))
              refine ret_cell2 rfl rfl (C6.out.row _) Tryz.underlying24 rfl ⟨0, by rw [HX.out]; rfl, (fun lo h => by rw [HX.out] at h; cases h), Fr.setRow W6.out (.inr HG2.out) _⟩
            · have hOk : octP t.data.toList = some v := by
                rw [hO]
                refine if_neg ?_
                rintro (h | ⟨_, h⟩)
                · omega
                · rw [hH] at h
                  injection h with h
                  exact hz (by rw [h]; rfl)
              have e1 : (((t[0]'ht0).toNat : Int) == 48) = false := by simp; omega
              have HU2 := Lib.hid (show octs ((ts.take (j + 1)).map (·.data.toList)) = some (us ++ [v]) by rw [HSN.out, hOk])
              have HLT := Lib.hid (shl8_lt (lo := lo) hv256)
              have HOR := Lib.hid (shl8_bits (lo := lo) hv256)
              have HA2' := Lib.hid (show j + 1 ≤ 4 → shl8 lo v = acc (us ++ [v]) from fun h => by
                have e := HAC.out (by omega)
                have hl := octs_len _ _ HUS.out
                rw [List.length_map, List.length_take] at hl
                have hb := acc_lt us.length us rfl (octs_lt _ _ HUS.out)
                have h3 : 256 ^ us.length ≤ 256 ^ 3 := Nat.pow_le_pow_right (by omega) (by omega)
                rw [acc_snoc, ← e, shl8_small (by rw [e]; omega) hv256])
              clear hO hOk HBD HSN
              clear hH hz
              go_wp2_with (go_at_call 56; refine k66.mono ?_; rintro e w6 ⟨rfl, hf6⟩; have B6 := Lib.hid (B5.out.fr hf6 id); have C6 := Lib.hid (B2.out.fr hf6 id); have G6 := Lib.hid (G.out.trans (hf6.mono fun _ _ h => h.elim)); have W6 := Lib.hid (GW.out.trans hf6); obtain ⟨y0, y1, y2⟩ := B6.out.c3; have fz := B6.out.frozen 2)
              go_roundw
              case rel =>
                have HB : Blk (w6.setCell ⟨g5, 2, none⟩ (Value.int IntKind.u64 (bits BinOp.or IntKind.u64 (IntKind.u64.wrap (↑lo * 256)) ↑v))) g5 24 #[.bool false, .int .u64 0, .int .u64 (shl8 lo v : Int)] := by
                  rw [HOR.out]
                  exact B6.out.set_ 2 _
                exact ⟨j + 1, shl8 lo v, us ++ [v], by omega, by go_num, HLT.out, HU2.out, HA2'.out, HB, G6.out.setCell (.inl rfl) _⟩
              case measure => simp [RowKit.intOf]; omega
          · have hd1 : decide (1 < (t.size : Int)) = false := decide_eq_false (by omega)
            have hOk : octP t.data.toList = some v := by
              rw [hO]
              refine if_neg ?_
              rintro (h | ⟨h, _⟩) <;> omega
            have HU2 := Lib.hid (show octs ((ts.take (j + 1)).map (·.data.toList)) = some (us ++ [v]) by rw [HSN.out, hOk])
            have HLT := Lib.hid (shl8_lt (lo := lo) hv256)
            have HOR := Lib.hid (shl8_bits (lo := lo) hv256)
            have HA2' := Lib.hid (show j + 1 ≤ 4 → shl8 lo v = acc (us ++ [v]) from fun h => by
              have e := HAC.out (by omega)
              have hl := octs_len _ _ HUS.out
              rw [List.length_map, List.length_take] at hl
              have hb := acc_lt us.length us rfl (octs_lt _ _ HUS.out)
              have h3 : 256 ^ us.length ≤ 256 ^ 3 := Nat.pow_le_pow_right (by omega) (by omega)
              rw [acc_snoc, ← e, shl8_small (by rw [e]; omega) hv256])
            clear hO hOk HBD HSN
            go_wp2_with (go_at_call 56; refine k66.mono ?_; rintro e w6 ⟨rfl, hf6⟩; have B6 := Lib.hid (B5.out.fr hf6 id); have C6 := Lib.hid (B2.out.fr hf6 id); have G6 := Lib.hid (G.out.trans (hf6.mono fun _ _ h => h.elim)); have W6 := Lib.hid (GW.out.trans hf6); obtain ⟨y0, y1, y2⟩ := B6.out.c3; have fz := B6.out.frozen 2)
            go_roundw
            case rel =>
              have HB : Blk (w6.setCell ⟨g5, 2, none⟩ (Value.int IntKind.u64 (bits BinOp.or IntKind.u64 (IntKind.u64.wrap (↑lo * 256)) ↑v))) g5 24 #[.bool false, .int .u64 0, .int .u64 (shl8 lo v : Int)] := by
                rw [HOR.out]
                exact B6.out.set_ 2 _
              exact ⟨j + 1, shl8 lo v, us ++ [v], by omega, by go_num, HLT.out, HU2.out, HA2'.out, HB, G6.out.setCell (.inl rfl) _⟩
            case measure => simp [RowKit.intOf]; omega
    · obtain rfl : j = n := by omega
      obtain ⟨z0, z1, z2⟩ := B5.out.c3
      have hfull : octs (ts.map (·.data.toList)) = some us := by
        have := HUS.out
        rwa [List.take_of_length_le (by rw [← HN.out]; exact Nat.le_refl _)] at this
      have hlen : (ts.map (·.data.toList)).length = j := by rw [List.length_map, HN.out]
      have hF4 : fourP (ts.map (·.data.toList)) = if j = 4 then some (acc us) else none := by
        unfold fourP
        rw [hlen, hfull]
        rfl
      have HF4 := Lib.hid hF4
      clear hfull hlen hF4
      by_cases h4 : j = 4
      · have e1 : decide (j = 4) = true := decide_eq_true h4
        have e2 : ((j : Int) == 4) = true := by simp; omega
        have e3 : decide ((j : Int) = 4) = true := decide_eq_true (by omega)
        go_wp2_with (refine wpList_store_row rfl 24 _ _ rfl g2 _ rfl rfl _ _ B2.out rfl rfl (by simp [Value.oneCell']) ?_)
        refine ret_cell2 rfl rfl (B2.out.row _) Tryz.underlying24 rfl ⟨lo, ?_, ?_, Fr.setRow GW.out (.inr HG2.out) _⟩
        · rw [HF4.out, if_pos h4]; rfl
        · intro l h
          rw [HF4.out, if_pos h4] at h
          cases h
          exact HAC.out (by omega)
      · have e1 : decide (j = 4) = false := decide_eq_false h4
        have e2 : ((j : Int) == 4) = false := by simp; omega
        have e3 : decide ((j : Int) = 4) = false := decide_eq_false (by omega)
        go_wp2_with (refine wpList_store_row rfl 24 _ _ rfl g2 _ rfl rfl _ _ B2.out rfl rfl (by simp [Value.oneCell']) ?_)
        refine ret_cell2 rfl rfl (B2.out.row _) Tryz.underlying24 rfl ⟨lo, ?_, ?_, Fr.setRow GW.out (.inr HG2.out) _⟩
        · rw [HF4.out, if_neg h4]; rfl
        · intro l h
          rw [HF4.out, if_neg h4] at h
          cases h
end
end Go.Proofs.YtcameghlkplgfaaGreatDoor
