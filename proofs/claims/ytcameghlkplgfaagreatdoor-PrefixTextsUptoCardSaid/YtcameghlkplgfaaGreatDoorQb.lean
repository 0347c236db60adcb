/- addr.row of any text. addr.joined. addr.six of any text. addr.Parse, prefix.Parse of any text. addr.Parse of any text that is not too long, as one function of its bytes. Texts of groups, plainly: a row of texts with a byte between is cut at it into that row; what addr.Parse reads of groups with colons between. What an address is told as, as a text and as bytes, is read as that address: plainly. The document's Print: the same text as addr.Print's. The document's Print of any address. Whatever text is read as an address: it is a right one, and the text that it is told as is longer by one byte at most. Plainly. The document's Print of any address with Six. The document's Print of any address, right or wrong. -/
import Derived.Test.YtcameghlkplgfaaGreatDoorFg
import Derived.Test.YtcameghlkplgfaaGreatDoorQa
import Derived.Laws.CopyOwn
import Derived.Lib.SplitLaws
import Derived.Test.YtcameghlkplgfaaGreatDoorO5
namespace Go.Proofs.YtcameghlkplgfaaGreatDoor
open Go.Proofs Go.Shelf Go.RowKit
def u16v (x : Nat) : Value := .int .u16 (x : Int)
def hexs : List (List UInt8) → Option (List Nat)
  | [] => some []
  | t :: r => match num16 t, hexs r with
    | some u, some us => some (u :: us)
    | _, _ => none
theorem hexs_snoc : ∀ (l : List (List UInt8)) (t : List UInt8), hexs (l ++ [t]) = match hexs l, num16 t with
    | some us, some u => some (us ++ [u])
    | _, _ => none
  | [], t => by
    simp only [List.nil_append, hexs]
    cases num16 t <;> rfl
  | a :: l, t => by
    simp only [List.cons_append, hexs]
    rw [hexs_snoc l t]
    cases num16 a <;> cases hexs l <;> cases num16 t <;> rfl
theorem hexs_len : ∀ (l : List (List UInt8)) (us : List Nat), hexs l = some us → us.length = l.length
  | [], us, h => by cases h; rfl
  | a :: l, us, h => by
    simp only [hexs] at h
    cases h1 : num16 a with
    | none => rw [h1] at h; cases h
    | some u =>
      cases h2 : hexs l with
      | none => rw [h1, h2] at h; cases h
      | some vs =>
        rw [h1, h2] at h
        cases h
        simp [hexs_len l vs h2]
theorem hexs_none : ∀ (l : List (List UInt8)) (j : Nat) (t : List UInt8), l[j]? = some t → num16 t = none → hexs l = none
  | [], j, t, h, _ => by simp at h
  | a :: l, 0, t, h, hn => by
    simp at h
    subst h
    simp only [hexs, hn]
  | a :: l, j + 1, t, h, hn => by
    simp at h
    simp only [hexs, hexs_none l j t h hn]
    cases num16 a <;> rfl
theorem hexG_lt : ∀ (l : List UInt8) (acc v : Nat), hexG acc l = some v → v < (acc + 1) * 16 ^ l.length
  | [], acc, v, h => by
    simp only [hexG, Option.some.injEq] at h
    simp
    omega
  | c :: r, acc, v, h => by
    simp only [hexG] at h
    cases hd : hexD c.toNat with
    | none => rw [hd] at h; cases h
    | some d =>
      rw [hd] at h
      have h1 := hexG_lt r _ v h
      have h0 := hexD_lt hd
      have h2 : acc * 16 + d + 1 ≤ (acc + 1) * 16 := by omega
      have h3 := Nat.mul_le_mul_right (16 ^ r.length) h2
      rw [List.length_cons, Nat.pow_succ]
      have e : (acc + 1) * (16 ^ r.length * 16) = (acc + 1) * 16 * 16 ^ r.length := by rw [Nat.mul_comm (16 ^ r.length), Nat.mul_assoc]
      omega
theorem num16_lt {l : List UInt8} {v : Nat} (h : num16 l = some v) : v < 65536 := by
  unfold num16 at h
  split at h
  · cases h
  · have h1 := hexG_lt _ _ _ h
    have h2 : 16 ^ l.length ≤ 16 ^ 4 := Nat.pow_le_pow_right (by omega) (by omega)
    omega
theorem hexs_lt : ∀ (l : List (List UInt8)) (us : List Nat), hexs l = some us → ∀ u ∈ us, u < 65536
  | [], us, h, u, hu => by cases h; cases hu
  | a :: l, us, h, u, hu => by
    simp only [hexs] at h
    cases h1 : num16 a with
    | none => rw [h1] at h; cases h
    | some v =>
      cases h2 : hexs l with
      | none => rw [h1, h2] at h; cases h
      | some vs =>
        rw [h1, h2] at h
        cases h
        rcases List.mem_cons.1 hu with rfl | hu
        · exact num16_lt h1
        · exact hexs_lt l vs h2 u hu
/-- A slice of groups of the call's own, made since w. -/
def Bu (w wr : World) (v : Value) (l : List Nat) : Prop :=
  ∃ A c, v = .slice A l.length c ∧ Own wr 70 1 A l.length c (l.map u16v) ∧ (∀ g, A = some ⟨g, 0, none⟩ → w.heap.size ≤ g) ∧ Fr N0 w wr
theorem Bu.nil_ (w : World) : Bu w w (.slice none 0 0) [] := ⟨none, 0, rfl, Own.nil_ _ _ _, nofun, Fr.refl _ _⟩
theorem Bu.nilF {w wr : World} (h : Fr N0 w wr) : Bu w wr (.slice none 0 0) [] := ⟨none, 0, rfl, Own.nil_ _ _ _, nofun, h⟩
theorem info16 : (Tryz.prog.info? 70).map (fun i => (i.zero, i.size, i.bytes)) = some (some (.int .u16 0), 1, 2) := by kernel_rfl
theorem Bu.step {w wr w' : World} {A : Option Addr} {g' c' n x : Nat} {l : List Nat} {X : Int} (G1 : ∀ g, A = some ⟨g, 0, none⟩ → w.heap.size ≤ g) (F1 : Fr N0 w wr) (hn : l.length = n)
    (hO' : Own w' 70 1 (some ⟨g', 0, none⟩) (n + 1) c' (l.map u16v ++ [.int .u16 X])) (hF' : Fr (fun i => A = some ⟨i, 0, none⟩) wr w') (hA' : A = some ⟨g', 0, none⟩ ∨ wr.heap.size ≤ g') (hX : X = (x : Int)) :
    Bu w w' (.slice (some ⟨g', 0, none⟩) (n + 1) c') (l ++ [x]) := by
  subst hX
  refine ⟨some ⟨g', 0, none⟩, c', by rw [List.length_append, hn]; rfl, by rw [List.length_append, hn, List.map_append]; exact hO', ?_, F1.step hF' fun i hi => .inr (G1 i hi)⟩
  intro g e
  rcases hA' with h | h
  · exact G1 g (h.trans e)
  · injection e with e
    injection e with e
    rw [← e]
    exact Nat.le_trans F1.size h
theorem Bu.up {w w2 wr : World} {v : Value} {l : List Nat} (k : Bu w2 wr v l) (hF : Fr N0 w w2) : Bu w wr v l := by
  obtain ⟨A, c, h1, h2, h3, h4⟩ := k
  exact ⟨A, c, h1, h2, fun g e => Nat.le_trans hF.size (h3 g e), hF.trans h4⟩
theorem Bu.mk' {w wr : World} {A : Option Addr} {c n : Nat} {L l : List Nat} (hn : L.length = n) (hl : L = l) (hO : Own wr 70 1 A n c (L.map u16v)) (hg : ∀ g, A = some ⟨g, 0, none⟩ → w.heap.size ≤ g) (hF : Fr N0 w wr) : Bu w wr (.slice A n c) l := by
  subst hl hn
  exact ⟨A, c, rfl, hO, hg, hF⟩
section
variable {w : World}
set_option maxHeartbeats 6400000 in
set_option maxRecDepth 100000 in
theorem row_ (s : ByteArray) (hs0 : s.size ≠ 0) (ts : List ByteArray) (m : Int) (hm : w.cell? ⟨0, 0, none⟩ = some (.int .i64 m)) (hsy : Sy w) (hn63 : ts.length ≤ 70368744177663)
    (hsp : ∀ W : World, W.cell? ⟨0, 0, none⟩ = some (.int .i64 m) → Calls Tryz.prog 55 #[.string s, .string ⟨#[58]⟩] W fun e w' => e = .returned (.slice (some ⟨W.heap.size, 0, none⟩) ts.length ts.length) ∧ w' = W.alloc (.cells (ts.map Value.string).toArray 9)) :
    Calls Tryz.prog 57 #[.string s] w fun e w' => ∃ v, e = .returned (.tuple #[v, .bool (hexs (ts.map (·.data.toList))).isSome]) ∧ Bu w w' v ((hexs (ts.map (·.data.toList))).getD []) := by
  obtain ⟨i0, hi, hz0, hz1, hz2⟩ := info_parts info16
  have hemp := nempty_of hs0
  obtain ⟨n, hn⟩ : ∃ n, n = ts.length := ⟨_, rfl⟩
  rw [← hn] at hsp hn63
  have HN := Lib.hid hn
  clear hn hs0
  go_enter Tryz.func57, Tryz.ntmps57
  go_wp2_with (go_at_call 55; refine (hsp _ hm).mono ?_; rintro e w2 ⟨rfl, rfl⟩)
  have HF2 := Lib.hid (Fr.alloc (Fr.refl N0 w) (.cells (ts.map Value.string).toArray 9))
  have HB4 := Lib.hid (Blk.new w 9 (ts.map Value.string).toArray)
  have HSY := Lib.hid hsy
  have HW := Lib.hid (Nat.le_refl w.heap.size)
  obtain ⟨w2, hw2⟩ : ∃ w2, w2 = w.alloc (.cells (ts.map Value.string).toArray 9) := ⟨_, rfl⟩
  rw [← hw2] at HF2 HB4 ⊢
  obtain ⟨g4, hg4⟩ : ∃ g, g = w.heap.size := ⟨_, rfl⟩
  rw [← hg4] at HB4 ⊢
  have HLT := Lib.hid HB4.out.lt
  clear hg4 hw2 hsp hm hsy
  go_loopw [4, 14] (fun v i wr => ∃ (j : Nat) (us : List Nat), j ≤ n ∧ i = .int .i64 (j : Int) ∧ hexs ((ts.take j).map (·.data.toList)) = some us ∧ Bu w2 wr v us) (fun _ i _ => n + 1 - (RowKit.intOf i).toNat)
  case atStart => exact ⟨0, [], by omega, rfl, rfl, Bu.nil_ _⟩
  case round =>
    obtain ⟨j, us, hj, rfl, hus, A, c, rfl, hO, hg, hF⟩ := hrel
    have hul := hexs_len _ _ hus
    have HUS := Lib.hid hus
    have O1 := Lib.hid hO
    have G1 := Lib.hid hg
    have F1 := Lib.hid hF
    have SW := Lib.hid (HSY.out.fr (HF2.out.trans hF))
    have BG := Lib.hid (HB4.out.fr hF id)
    obtain ⟨N, hN⟩ : ∃ N, N = us.length := ⟨_, rfl⟩
    rw [← hN] at O1 ⊢
    have HNN := Lib.hid hN.symm
    have hN2 : N ≤ 70368744177663 := by rw [hN, hul, List.length_map, List.length_take]; omega
    clear hO hg hF hus hul hN
    by_cases hjn : j < n
    · obtain ⟨t, ht⟩ : ∃ t, ts[j]? = some t := ⟨_, List.getElem?_eq_getElem (by rw [← HN.out]; exact hjn)⟩
      have x0 := BG.out.cell j
      rw [List.getElem?_toArray, List.getElem?_map, ht] at x0
      replace x0 : wr.cell? ⟨g4, j, none⟩ = some (.string t) := x0
      have k66 := numb16 (w := wr) t SW.out
      have hsnoc : hexs ((ts.take (j + 1)).map (·.data.toList)) = match num16 t.data.toList with | some u => some (us ++ [u]) | none => none := by
        rw [List.take_add_one, ht, List.map_append, Option.toList_some, List.map_cons, List.map_nil, hexs_snoc, HUS.out]
        cases num16 t.data.toList <;> rfl
      have hbad : num16 t.data.toList = none → hexs (ts.map (·.data.toList)) = none := fun hn =>
        hexs_none _ j t.data.toList (by rw [List.getElem?_map, ht]; rfl) hn
      have HSN := Lib.hid hsnoc
      have HBD := Lib.hid hbad
      clear hsnoc hbad ht
      cases hnum : num16 t.data.toList with
      | none =>
        rw [hnum] at k66
        have HX := Lib.hid (HBD.out hnum)
        clear hnum HBD HSN
        simp only [numT] at k66
        go_wp2_with (go_at_call 56; refine k66.mono ?_; rintro e w6 ⟨rfl, hf6⟩)
        go_ret2
        exact ⟨_, by rw [HX.out]; rfl, by rw [HX.out]; exact Bu.nilF (HF2.out.trans (F1.out.trans hf6))⟩
      | some v =>
        rw [hnum] at k66
        have hv := num16_lt hnum
        have HX := Lib.hid (show hexs ((ts.take (j + 1)).map (·.data.toList)) = some (us ++ [v]) by rw [HSN.out, hnum])
        clear hnum HBD HSN
        simp only [numT] at k66
        go_wp2_with (first
          | (go_at_call 56; refine k66.mono ?_; rintro e w6 ⟨rfl, hf6⟩; have O6 := Lib.hid (O1.out.fr hf6 (fun _ _ h => h)); have F6 := Lib.hid (F1.out.trans hf6))
          | (at_builtin; refine wpList_append1 w6 rfl (.tmp 25) (.tmp 28) 77 rfl 70 i0 (.int .u16 0) 1 2 Tryz.underlying77 hi hz0 hz1 hz2 rfl (by omega) A N c _ rfl O6.out [.int .u16 (v : Int)] rfl rfl ?_ ?_ ?_ ?_))
        · simp [Value.oneCell']
        · omega
        · omega
        · intro g' c' w' hO' hF' hA'
          have HB := Lib.hid (Bu.step G1.out F6.out HNN.out hO' hF' hA' (show _ = ((v : Nat) : Int) from rfl))
          clear hO' hF' hA'
          go_wp2_with fail
          go_roundw
          case rel => exact ⟨j + 1, us ++ [v], by omega, by go_num, HX.out, HB.out⟩
          case measure => simp [RowKit.intOf]; omega
    · obtain rfl : j = n := by omega
      have hfull : hexs (ts.map (·.data.toList)) = some us := by
        have := HUS.out
        rwa [List.take_of_length_le (by rw [← HN.out]; exact Nat.le_refl _)] at this
      have HX := Lib.hid hfull
      clear hfull
      go_wp2_with fail
      go_ret2
      refine ⟨_, by rw [HX.out]; rfl, ?_⟩
      rw [HX.out]
      exact (Bu.mk' HNN.out rfl O1.out G1.out F1.out).up HF2.out
theorem row_nil : Calls Tryz.prog 57 #[.string ⟨#[]⟩] w fun e w' => ∃ v, e = .returned (.tuple #[v, .bool true]) ∧ Bu w w' v [] := by
  go_enter Tryz.func57, Tryz.ntmps57
  go_wp2_with fail
  go_ret2
  exact ⟨_, rfl, Bu.nil_ _⟩
end
end Go.Proofs.YtcameghlkplgfaaGreatDoor
namespace Go.Proofs.YtcameghlkplgfaaGreatDoor
open Go.Proofs Go.Shelf Go.RowKit
def jn (l : List Nat) : Nat := l.foldl (fun a g => a * 65536 + g) 0
theorem jn_snoc (l : List Nat) (u : Nat) : jn (l ++ [u]) = jn l * 65536 + u := by simp [jn]
theorem jn_lt : ∀ (n : Nat) (l : List Nat), l.length = n → (∀ u ∈ l, u < 65536) → jn l < 65536 ^ n
  | 0, l, hl, _ => by
    have : l = [] := List.length_eq_zero_iff.1 hl
    subst this
    simp [jn]
  | n + 1, l, hl, h => by
    rcases List.eq_nil_or_concat l with rfl | ⟨r, u, rfl⟩
    · simp at hl
    · rw [List.concat_eq_append] at hl h ⊢
      rw [jn_snoc]
      have h1 := jn_lt n r (by simpa using hl) fun u hu => h u (by simp [hu])
      have h2 := h u (by simp)
      rw [Nat.pow_succ]
      omega
theorem or_group {x u : Nat} (hx : x < 281474976710656) (hu : u < 65536) : bits .or .u64 ((x : Int) * 65536) (u : Int) = ((x * 65536 + u : Nat) : Int) := by
  rw [show ((x : Int) * 65536) = ((x * 65536 : Nat) : Int) by omega, bits_or_u64_nat _ _ (by omega) (by omega)]
  congr 1
  rw [Nat.mul_comm, show (65536 : Nat) = 2 ^ 16 from rfl, Nat.two_pow_add_eq_or_of_lt (show u < 2 ^ 16 from hu)]
section
variable {w : World}
set_option maxHeartbeats 6400000 in
set_option maxRecDepth 100000 in
theorem joined_ (gs : List Nat) (hl : gs.length = 8) (hlt : ∀ u ∈ gs, u < 65536) : Calls Tryz.prog 58 #[.agg (gs.map u16v).toArray] w fun e w' => e = .returned (adV ⟨true, jn (gs.take 4), jn (gs.drop 4)⟩) ∧ Fr N0 w w' := by
  have HL := Lib.hid hl
  have HLT := Lib.hid hlt
  clear hl hlt
  go_enter Tryz.func58, Tryz.ntmps58
  go_wp2_with fail
  have HF1 := Lib.hid (Fr.alloc (Fr.alloc (Fr.alloc (Fr.refl N0 w) (.cells (gs.map u16v).toArray 72)) (.cells #[.bool false, .int .u64 0, .int .u64 0] 24)) (.cells #[.bool true, .int .u64 0, .int .u64 0] 24))
  have HA1 := Lib.hid (((Blk.new w 72 (gs.map u16v).toArray).alloc (.cells #[.bool false, .int .u64 0, .int .u64 0] 24)).alloc (.cells #[.bool true, .int .u64 0, .int .u64 0] 24))
  have HA2 := Lib.hid ((Blk.alloc2 w (.cells (gs.map u16v).toArray 72) 24 #[.bool false, .int .u64 0, .int .u64 0]).alloc (.cells #[.bool true, .int .u64 0, .int .u64 0] 24))
  have HA3 := Lib.hid (Blk.alloc3 w (.cells (gs.map u16v).toArray 72) (.cells #[.bool false, .int .u64 0, .int .u64 0] 24) 24 #[.bool true, .int .u64 0, .int .u64 0])
  generalize World.alloc (World.alloc (w.alloc _) _) _ = w1 at *
  obtain ⟨g3, hg3⟩ : ∃ g, g = w.heap.size + 2 := ⟨_, rfl⟩
  rw [← hg3] at HA3 ⊢
  obtain ⟨g2, hg2⟩ : ∃ g, g = w.heap.size + 1 := ⟨_, rfl⟩
  rw [← hg2] at HA2 ⊢
  obtain ⟨g1, hg1⟩ : ∃ g, g = w.heap.size := ⟨_, rfl⟩
  rw [← hg1] at HA1 ⊢
  have N13 := Lib.hid (show g1 ≠ g3 by omega)
  have N23 := Lib.hid (show g2 ≠ g3 by omega)
  have HG3 := Lib.hid (show w.heap.size ≤ g3 by omega)
  have HG2 := Lib.hid (show w.heap.size ≤ g2 by omega)
  clear hg1 hg2 hg3
  go_loopw [6] (fun i wr => ∃ j : Nat, j ≤ 4 ∧ i = .int .i64 (j : Int) ∧ Blk wr g3 24 #[.bool true, .int .u64 (jn (gs.take j) : Int), .int .u64 (jn ((gs.drop 4).take j) : Int)] ∧ Fr (fun i => i = g3) w1 wr) (fun i _ => 5 - (RowKit.intOf i).toNat)
  case atStart => exact ⟨0, by omega, rfl, HA3.out, Fr.refl _ _⟩
  case round =>
    obtain ⟨j, hj, rfl, hb3, hF⟩ := hrel
    have B3 := Lib.hid hb3
    have G := Lib.hid hF
    have B1 := Lib.hid (HA1.out.fr hF N13.out)
    have B2 := Lib.hid (HA2.out.fr hF N23.out)
    clear hb3 hF
    by_cases hj4 : j < 4
    · have hjI : (j : Int) < 4 := by omega
      obtain ⟨a, ha⟩ : ∃ a, gs[j]? = some a := ⟨_, List.getElem?_eq_getElem (by rw [HL.out]; omega)⟩
      obtain ⟨b, hb⟩ : ∃ b, gs[4 + j]? = some b := ⟨_, List.getElem?_eq_getElem (by rw [HL.out]; omega)⟩
      have ha16 := HLT.out a (List.mem_of_getElem? ha)
      have hb16 := HLT.out b (List.mem_of_getElem? hb)
      have x0 := B1.out.cell j
      rw [List.getElem?_toArray, List.getElem?_map, ha] at x0
      replace x0 : wr.cell? ⟨g1, j, none⟩ = some (.int .u16 (a : Int)) := x0
      have y0 := B1.out.cell (4 + j)
      rw [List.getElem?_toArray, List.getElem?_map, hb] at y0
      replace y0 : wr.cell? ⟨g1, 4 + j, none⟩ = some (.int .u16 (b : Int)) := y0
      have t1 : gs.take (j + 1) = gs.take j ++ [a] := by rw [List.take_add_one, ha]; rfl
      have t2 : (gs.drop 4).take (j + 1) = (gs.drop 4).take j ++ [b] := by rw [List.take_add_one, List.getElem?_drop, hb]; rfl
      have l1 := jn_lt j (gs.take j) (by rw [List.length_take, HL.out]; omega) (fun u hu => HLT.out u (List.mem_of_mem_take hu))
      have l2 := jn_lt j ((gs.drop 4).take j) (by rw [List.length_take, List.length_drop, HL.out]; omega) (fun u hu => HLT.out u (List.mem_of_mem_drop (List.mem_of_mem_take hu)))
      have hp : 65536 ^ j ≤ 65536 ^ 3 := Nat.pow_le_pow_right (by omega) (by omega)
      have HE1 := Lib.hid (show jn (gs.take (j + 1)) = jn (gs.take j) * 65536 + a by rw [t1, jn_snoc])
      have HE2 := Lib.hid (show jn ((gs.drop 4).take (j + 1)) = jn ((gs.drop 4).take j) * 65536 + b by rw [t2, jn_snoc])
      obtain ⟨X, hX⟩ : ∃ X, X = jn (gs.take j) := ⟨_, rfl⟩
      obtain ⟨Y, hY⟩ : ∃ Y, Y = jn ((gs.drop 4).take j) := ⟨_, rfl⟩
      rw [← hX] at B3 HE1 l1
      rw [← hY] at B3 HE2 l2
      have hX3 : X < 281474976710656 := by have : (65536 : Nat) ^ 3 = 281474976710656 := by decide
                                           omega
      have hY3 : Y < 281474976710656 := by have : (65536 : Nat) ^ 3 = 281474976710656 := by decide
                                           omega
      have HO1 := Lib.hid (or_group hX3 ha16)
      have HO2 := Lib.hid (or_group hY3 hb16)
      obtain ⟨z0, z1, z2⟩ := B3.out.c3
      have fz1 := B3.out.frozen 1
      have fz2 := B3.out.frozen 2
      clear ha t1 t2 l1 l2 hp hX hY
      go_wp2_with fail
      go_region
      all_goals go_wp2_with fail
      rw [HO1.out]
      have B3' := Lib.hid ((B3.out.set_ 1 (.int .u64 ((X * 65536 + a : Nat) : Int))).drew)
      have B1' := Lib.hid ((B1.out.far (p := ⟨g3, 1, none⟩) N13.out (.int .u64 ((X * 65536 + a : Nat) : Int))).drew)
      have G' := Lib.hid ((G.out.setCell (p := ⟨g3, 1, none⟩) (.inl rfl) (.int .u64 ((X * 65536 + a : Nat) : Int))).drew)
      clear z0 z1 z2 fz1 fz2 x0 y0 B1 B3 G
      generalize World.drew (wr.setCell _ _) = ws at *
      have y0 := B1'.out.cell (4 + j)
      rw [List.getElem?_toArray, List.getElem?_map, hb] at y0
      replace y0 : ws.cell? ⟨g1, 4 + j, none⟩ = some (.int .u16 (b : Int)) := y0
      obtain ⟨z0, z1, z2⟩ := (show Blk ws g3 24 #[.bool true, .int .u64 ((X * 65536 + a : Nat) : Int), .int .u64 (Y : Int)] from B3'.out).c3
      have fz2 := B3'.out.frozen 2
      clear hb
      go_region
      all_goals go_wp2_with fail
      all_goals refine ⟨⟨j + 1, by omega, by go_num, ?_, ?_⟩, by simp [RowKit.intOf]; omega⟩
      · rw [HE1.out, HE2.out, HO2.out]
        exact (B3'.out.set_ 2 _).drew
      · exact (G'.out.setCell (.inl rfl) _).drew
    · obtain rfl : j = 4 := by omega
      have BF : Hid (Blk wr g3 24 #[.bool true, .int .u64 (jn (gs.take 4) : Int), .int .u64 (jn (gs.drop 4) : Int)]) := by
        have := B3.out
        rw [List.take_of_length_le (l := gs.drop 4) (by rw [List.length_drop, HL.out]; omega)] at this
        exact Lib.hid this
      clear B3
      obtain ⟨z0, z1, z2⟩ := BF.out.c3
      go_wp2_with (refine wpList_store_row rfl 24 _ _ rfl g2 _ rfl rfl _ _ B2.out rfl rfl (by simp [Value.oneCell']) ?_)
      refine ret_cell rfl rfl (B2.out.row _) Tryz.underlying24 rfl ⟨rfl, Fr.setRow (HF1.out.step G.out fun i hi => .inr (hi ▸ HG3.out)) (.inr HG2.out) _⟩
end
end Go.Proofs.YtcameghlkplgfaaGreatDoor
namespace Go.Proofs.YtcameghlkplgfaaGreatDoor
open Go.Proofs Go.Shelf Go.RowKit
/-- The groups of an address out of those ahead and those behind. -/
def grp (x y : List Nat) : List Nat := x ++ (List.replicate (8 - (x.length + y.length)) 0 ++ y)
def adG (gs : List Nat) : Ad := ⟨true, jn (gs.take 4), jn (gs.drop 4)⟩
def sixR (X Y : Option (List Nat)) (short : Bool) : Option Ad := match X, Y with
  | some x, some y => if (short = true ∧ 7 < x.length + y.length) ∨ (short = false ∧ x.length + y.length ≠ 8) then none else some (adG (grp x y))
  | _, _ => none
theorem add_at (b o j : Nat) : (⟨b, o, none⟩ : Addr).add j = ⟨b, o + j, none⟩ := by
  unfold Addr.add
  by_cases h0 : j = 0
  · subst h0; simp
  · rw [if_neg h0]
theorem splice_grp (X Y : List Nat) (h : X.length + Y.length ≤ 8) : splice (splice ((List.replicate 8 0).map u16v) 0 (X.map u16v)) (8 - Y.length) (Y.map u16v) = (grp X Y).map u16v := by
  have e1 : splice ((List.replicate 8 0).map u16v) 0 (X.map u16v) = (X ++ List.replicate (8 - X.length) 0).map u16v := by
    unfold splice
    rw [List.take_zero, List.nil_append, List.length_map, Nat.zero_add, List.map_append, ← List.map_drop, List.drop_replicate]
  rw [e1]
  unfold splice grp
  rw [← List.map_take, ← List.map_drop, ← List.map_append, ← List.map_append, List.length_map]
  congr 1
  rw [show 8 - Y.length + Y.length = 8 by omega, List.drop_of_length_le (by simp; omega), List.append_nil, List.take_append, List.take_of_length_le (by omega), List.take_replicate, List.append_assoc]
  congr 2
  congr 1
  omega
section
variable {w : World}
set_option maxHeartbeats 6400000 in
set_option maxRecDepth 100000 in
theorem six_ (s ax by_ : ByteArray) (short : Bool) (X Y : Option (List Nat)) (m : Int) (hm : Mx m w) (hsy : Sy w) (hX16 : ∀ x, X = some x → ∀ u ∈ x, u < 65536) (hY16 : ∀ y, Y = some y → ∀ u ∈ y, u < 65536)
    (hXn : (X.getD []).length ≤ 70368744177664) (hYn : (Y.getD []).length ≤ 70368744177664)
    (hcut : ∀ W : World, Mx m W → Calls Tryz.prog 18 #[.string s, .string ⟨#[58, 58]⟩] W fun e w' => e = .returned (.tuple #[.string ax, .string by_, .bool short]) ∧ Fr N0 W w')
    (hrx : ∀ W : World, Mx m W → Sy W → Calls Tryz.prog 57 #[.string ax] W fun e w' => ∃ v, e = .returned (.tuple #[v, .bool X.isSome]) ∧ Bu W w' v (X.getD []))
    (hry : ∀ W : World, Mx m W → Sy W → Calls Tryz.prog 57 #[.string by_] W fun e w' => ∃ v, e = .returned (.tuple #[v, .bool Y.isSome]) ∧ Bu W w' v (Y.getD [])) :
    Calls Tryz.prog 35 #[.string s] w fun e w' => e = .returned (.tuple #[adV ((sixR X Y short).getD ⟨false, 0, 0⟩), .bool (sixR X Y short).isSome]) ∧ Fr N0 w w' := by
  obtain ⟨res, hres⟩ : ∃ res, res = sixR X Y short := ⟨_, rfl⟩
  rw [← hres]
  have HR := Lib.hid hres
  have HX16 := Lib.hid hX16
  have HY16 := Lib.hid hY16
  clear hres hX16 hY16
  obtain ⟨bx, hbx⟩ : ∃ b, b = X.isSome := ⟨_, rfl⟩
  obtain ⟨bY, hby⟩ : ∃ b, b = Y.isSome := ⟨_, rfl⟩
  obtain ⟨xl, hxl⟩ : ∃ l, l = X.getD [] := ⟨_, rfl⟩
  obtain ⟨yl, hyl⟩ : ∃ l, l = Y.getD [] := ⟨_, rfl⟩
  rw [← hbx, ← hxl] at hrx
  rw [← hby, ← hyl] at hry
  rw [← hxl] at hXn
  rw [← hyl] at hYn
  have HBX := Lib.hid hbx
  have HBY := Lib.hid hby
  have HXL := Lib.hid hxl
  have HYL := Lib.hid hyl
  clear hbx hby hxl hyl
  go_enter Tryz.func35, Tryz.ntmps35
  go_wp2_with fail
  have HA1 := Lib.hid (Blk.new w 24 #[Value.bool false, Value.int .u64 0, Value.int .u64 0])
  have HF1 := Lib.hid (Fr.alloc (Fr.refl N0 w) (.cells #[Value.bool false, Value.int .u64 0, Value.int .u64 0] 24))
  generalize w.alloc _ = w1 at *
  obtain ⟨g1, hg1⟩ : ∃ g1, g1 = w.heap.size := ⟨_, rfl⟩
  rw [← hg1] at HA1 ⊢
  have HG1 : Hid (w.heap.size ≤ g1) := Lib.hid (by omega)
  clear hg1
  have HZ1 : Hid (∀ W, Fr N0 w1 W → Blk W g1 24 #[Value.bool false, Value.int .u64 0, Value.int .u64 0]) := Lib.hid fun W hf => HA1.out.fr hf id
  have F := Lib.hid (Fr.refl N0 w1)
  refine (hcut _ (hm.fr HF1.out)).mono ?_
  rintro e w2 ⟨rfl, hf2⟩
  have F2 := Lib.hid hf2
  go_wp2_with fail
  refine (hrx _ (hm.fr (HF1.out.trans hf2)) (hsy.fr (HF1.out.trans hf2))).mono ?_
  rintro e w3 ⟨vx, rfl, Ax, cx, rfl, hOx, hgx, hf3⟩
  have F3 := Lib.hid (F2.out.trans hf3)
  have OX := Lib.hid hOx
  clear hOx hgx hf2 hf3 F2
  go_wp2_with fail
  refine (hry _ (hm.fr (HF1.out.trans F3.out)) (hsy.fr (HF1.out.trans F3.out))).mono ?_
  rintro e w4 ⟨vy, rfl, Ay, cy, rfl, hOy, hgy, hf4⟩
  have F4 := Lib.hid (F3.out.trans hf4)
  have OY := Lib.hid hOy
  have OX4 := Lib.hid (OX.out.fr hf4 (fun _ _ h => h))
  have HMW := Lib.hid hm
  clear hOy hgy hf4 OX F3 hcut hrx hry hm hsy
  obtain ⟨p, hp⟩ : ∃ p, p = xl.length := ⟨_, rfl⟩
  obtain ⟨q, hq⟩ : ∃ q, q = yl.length := ⟨_, rfl⟩
  rw [← hp] at OX4 hXn ⊢
  rw [← hq] at OY hYn ⊢
  have HP := Lib.hid hp
  have HQ := Lib.hid hq
  clear hp hq F HA1
  have hcase : (bx = false ∧ res = none) ∨ (bx = true ∧ bY = false ∧ res = none) ∨ (bx = true ∧ bY = true ∧ short = true ∧ 7 < p + q ∧ res = none) ∨ (bx = true ∧ bY = true ∧ short = false ∧ (p + q < 8 ∨ 8 < p + q) ∧ res = none)
      ∨ (bx = true ∧ bY = true ∧ short = true ∧ p + q ≤ 7 ∧ res = some (adG (grp xl yl))) ∨ (bx = true ∧ bY = true ∧ short = false ∧ p + q = 8 ∧ res = some (adG (grp xl yl))) := by
    have h1 := HR.out
    have h2 := HBX.out
    have h3 := HBY.out
    have h4 := HXL.out
    have h5 := HYL.out
    have h6 := HP.out
    have h7 := HQ.out
    unfold sixR at h1
    cases X with
    | none => exact .inl ⟨h2, h1⟩
    | some x =>
      cases Y with
      | none => exact .inr (.inl ⟨h2, h3, h1⟩)
      | some y =>
        simp only [Option.getD_some] at h4 h5
        subst h4 h5
        simp only at h1
        rw [← h6, ← h7] at h1
        cases short with
        | true =>
          by_cases h : 7 < p + q
          · exact .inr (.inr (.inl ⟨h2, h3, rfl, h, by rw [h1, if_pos (.inl ⟨rfl, h⟩)]⟩))
          · exact .inr (.inr (.inr (.inr (.inl ⟨h2, h3, rfl, by omega, by rw [h1, if_neg (by simp; omega)]⟩))))
        | false =>
          by_cases h : p + q = 8
          · exact .inr (.inr (.inr (.inr (.inr ⟨h2, h3, rfl, h, by rw [h1, if_neg (by simp; omega)]⟩))))
          · exact .inr (.inr (.inr (.inl ⟨h2, h3, rfl, by omega, by rw [h1, if_pos (.inr ⟨rfl, h⟩)]⟩)))
  have B4 := Lib.hid (HZ1.out _ F4.out)
  have HFR := Lib.hid (HF1.out.trans F4.out)
  clear HZ1 F4 HR HBX HBY
  rcases hcase with ⟨rfl, he⟩ | ⟨rfl, rfl, he⟩ | ⟨rfl, rfl, rfl, hpq, he⟩ | ⟨rfl, rfl, rfl, hpq | hpq, he⟩ | ⟨rfl, rfl, rfl, hpq, he⟩ | ⟨rfl, rfl, rfl, hpq, he⟩
  iterate 5
    next =>
      have HE := Lib.hid he
      clear he
      go_wp2_with (refine wpList_store_row rfl 24 _ _ rfl g1 _ rfl rfl _ _ B4.out rfl rfl (by simp [Value.oneCell']) ?_)
      refine ret_cell2 rfl rfl (B4.out.row _) Tryz.underlying24 rfl ⟨?_, Fr.setRow HFR.out (.inr HG1.out) _⟩
      rw [HE.out]
      rfl
  all_goals
    have HE := Lib.hid he
    clear he
    have hq8 : q ≤ 8 := by omega
    have hp8 : p ≤ 8 := by omega
    have hcx : ∀ W : World, Fr N0 w4 W → ∀ (j : Nat) (v : Value), (xl.map u16v)[j]? = some v → ∀ ad, Ax = some ad → W.cell? (ad.add j) = some v := fun W hW j v hj ad hA => by
      have O := OX4.out.fr hW (fun _ _ h => h)
      have hjl : j < p := by rw [HP.out]; have := (List.getElem?_eq_some_iff.1 hj).1; simpa using this
      obtain ⟨g', hg'⟩ := O.some_ (by omega)
      rw [hg'] at hA O
      cases hA
      rw [add_at, Nat.zero_add]
      exact (O.cell j (by omega)).trans hj
    have hcy : ∀ W : World, Fr N0 w4 W → ∀ (j : Nat) (v : Value), (yl.map u16v)[j]? = some v → ∀ ad, Ay = some ad → W.cell? (ad.add j) = some v := fun W hW j v hj ad hA => by
      have O := OY.out.fr hW (fun _ _ h => h)
      have hjl : j < q := by rw [HQ.out]; have := (List.getElem?_eq_some_iff.1 hj).1; simpa using this
      obtain ⟨g', hg'⟩ := O.some_ (by omega)
      rw [hg'] at hA O
      cases hA
      rw [add_at, Nat.zero_add]
      exact (O.cell j (by omega)).trans hj
    have hax : 0 < p → ∃ ad, Ax = some ad := fun h => by obtain ⟨g', hg'⟩ := OX4.out.some_ h; exact ⟨_, hg'⟩
    have hay : 0 < q → ∃ ad, Ay = some ad := fun h => by obtain ⟨g', hg'⟩ := OY.out.some_ h; exact ⟨_, hg'⟩
    have hnew : (w4.alloc (.cells #[.int .u16 0, .int .u16 0, .int .u16 0, .int .u16 0, .int .u16 0, .int .u16 0, .int .u16 0, .int .u16 0] 72)).heap[w4.heap.size]? = some (.cells ((List.replicate 8 0).map u16v).toArray 72 (0, 0)) := Blk.new w4 _ _
    have HC := Lib.hid hcx
    have HD := Lib.hid hcy
    have HAX := Lib.hid hax
    have HAY := Lib.hid hay
    have HNW := Lib.hid hnew
    have hp8' : Nat.min p 8 = p := Nat.min_eq_left hp8
    have HM8 := Lib.hid hp8'
    clear hcx hcy hax hay hnew hp8'
    go_wp2_with (refine wpList_copy_splice rfl (.tmp 56) (.tmp 57) 77 77 rfl 70 Tryz.underlying77 (by kernel_rfl) (some ⟨w4.heap.size, 0, none⟩) Ax 8 8 p cx rfl rfl w4.heap.size 0 ((List.replicate 8 0).map u16v) 72 HNW.out (xl.map u16v) (by rw [List.length_map, ← HP.out]; exact HM8.out.symm) (fun h => ⟨rfl, by
        have h' : 0 < p := by rw [List.length_map, ← HP.out] at h; exact h
        obtain ⟨ad, had⟩ := HAX.out h'
        exact ⟨ad, had, fun j v hj => HC.out _ ((Fr.refl _ _).alloc _) j v hj ad had⟩⟩) (by rw [List.length_map, List.length_map, List.length_replicate, ← HP.out]; omega) (by intro v hv; obtain ⟨x, _, rfl⟩ := List.mem_map.1 hv; rfl) w4.heap.size _ (Below.refl _ _) (Nat.le_refl _) ?_)
    intro w5 h5 hb5
    have B12 : Hid (Blk w5 w4.heap.size 72 (splice ((List.replicate 8 0).map u16v) 0 (xl.map u16v)).toArray) := Lib.hid h5.out
    have F5 := Lib.hid (show Fr N0 w4 w5 from Fr.of_below (((Below.refl w4.heap.size w4).alloc (Nat.le_refl _) _).trans hb5))
    have B15 := Lib.hid (B4.out.fr F5.out id)
    have hg12 : w4.heap.size < w5.heap.size := B12.out.lt
    have HNE := Lib.hid (show g1 ≠ w4.heap.size from by have := B4.out.lt; omega)
    have HG12 := Lib.hid HFR.out.size
    have HB5 := Lib.hid (((Below.refl w4.heap.size w4).alloc (Nat.le_refl _) _).trans hb5)
    clear h5 hb5
    generalize hg : w4.heap.size = g at *
    have HGE := Lib.hid hg
    clear hg
    have hgl : (grp xl yl).length = 8 := by unfold grp; rw [List.length_append, List.length_append, List.length_replicate, ← HP.out, ← HQ.out]; omega
    have hglt : ∀ u ∈ grp xl yl, u < 65536 := fun u hu => by
      unfold grp at hu
      rcases List.mem_append.1 hu with h | h
      · rw [HXL.out] at h
        cases hXx : X with
        | none => rw [hXx] at h; cases h
        | some x => rw [hXx] at h; exact HX16.out x hXx u h
      · rcases List.mem_append.1 h with h | h
        · rw [List.eq_of_mem_replicate h]; omega
        · rw [HYL.out] at h
          cases hYy : Y with
          | none => rw [hYy] at h; cases h
          | some y => rw [hYy] at h; exact HY16.out y hYy u h
    have kj := fun W => joined_ (w := W) (grp xl yl) hgl hglt
    have HGL := Lib.hid (show ((grp xl yl).map u16v).toArray.size = 8 by simp [hgl])
    have HSP := Lib.hid (splice_grp xl yl (by rw [← HP.out, ← HQ.out]; omega))
    clear hgl hglt
    unfold adG at HE
    by_cases hq0 : q = 0
    · subst hq0
      have HY0 : yl = [] := List.length_eq_zero_iff.1 HQ.out.symm
      have B6 : Hid (Blk w5 g 72 ((grp xl yl).map u16v).toArray) := by
        have h := HSP.out
        rw [HY0] at h ⊢
        rw [← h]
        have e : splice (splice ((List.replicate 8 0).map u16v) 0 (xl.map u16v)) (8 - ([] : List Nat).length) (([] : List Nat).map u16v) = splice ((List.replicate 8 0).map u16v) 0 (xl.map u16v) := by
          unfold splice
          simp
        rw [e]
        exact B12
      clear HSP HY0
      go_wp2_with (first | refine wpList_load_row rfl 72 (.tmp 12) rfl g rfl 72 _ (0, 0) _ B6.out Tryz.underlying72 rfl (by rw [HGL.out]; kernel_rfl) ?_ | refine wpList_copy_nothing rfl (.tmp 62) (.tmp 63) 77 77 rfl 70 Tryz.underlying77 (by kernel_rfl) (some ⟨g, 0, none⟩) Ay 0 0 0 cy rfl rfl rfl ?_)
      go_wp2_with (first
        | (refine wpList_load_row rfl 72 (.tmp 12) rfl g rfl 72 _ (0, 0) _ B6.out Tryz.underlying72 rfl (by rw [HGL.out]; kernel_rfl) ?_)
        | (go_at_call 58; refine (kj _).mono ?_; rintro e w7 ⟨rfl, hf7⟩; have F7 := Lib.hid (F5.out.trans hf7))
        | (refine wpList_store_row rfl 24 _ _ rfl g1 _ rfl rfl _ _ (B4.out.fr F7.out id) rfl rfl (by simp [Value.oneCell']) ?_))
      refine ret_cell2 rfl rfl ((B4.out.fr F7.out id).row _) Tryz.underlying24 rfl ⟨?_, Fr.setRow (HFR.out.trans F7.out) (.inr HG1.out) _⟩
      rw [HE.out]
      rfl
    · have hq1 : 1 ≤ q := by omega
      have hsl : ∀ W, (Instr.sliceAt 72 (.pointer (some ⟨g, 0, none⟩)) (some (.int .i64 (8 - (q : Int)))) none none).run Tryz.prog W = .ok (.slice (some ⟨g, 8 - q, none⟩) q q) W := fun W => by
        have hal : Tryz.prog.arrayLen 72 = 8 := by simp [Program.arrayLen, Tryz.underlying72]
        rw [run_sliceAt_array_l W 72 ⟨g, 0, none⟩ (by simp [Program.arrayLen, Program.elem, Tryz.underlying72]) .i64 (8 - (q : Int)) (by omega) (by rw [hal]; omega), hal]
        have e8 : (8 - (q : Int)).toNat = 8 - q := by omega
        have e9 : 8 - (8 - q) = q := by omega
        have z66 := Tryz.sizeOf70
        have hel : Tryz.prog.elem 72 = 70 := by simp [Program.elem, Tryz.underlying72]
        rw [hel, z66, e8]
        simp only [Result.andThen_ok, slicedAt]
        simp [e9, add_at]
        omega
      have HSL := Lib.hid (splice_grp xl yl (by rw [← HP.out, ← HQ.out]; omega))
      have HCUR := Lib.hid (show (splice ((List.replicate 8 0).map u16v) 0 (xl.map u16v)).length = 8 by
        rw [length_splice _ _ _ (by rw [List.length_map, List.length_map, List.length_replicate, ← HP.out]; omega), List.length_map, List.length_replicate])
      go_wp2_with (refine wpList_copy_splice rfl (.tmp 62) (.tmp 63) 77 77 rfl 70 Tryz.underlying77 (by kernel_rfl) (some ⟨g, 8 - q, none⟩) Ay q q q cy rfl rfl g (8 - q) (splice ((List.replicate 8 0).map u16v) 0 (xl.map u16v)) 72 B12.out (yl.map u16v) (by rw [List.length_map, ← HQ.out]; exact (Nat.min_self q).symm) (fun h => ⟨rfl, by
        obtain ⟨ad, had⟩ := HAY.out hq1
        exact ⟨ad, had, fun j v hj => HD.out _ F5.out j v hj ad had⟩⟩) (by rw [HCUR.out, List.length_map, ← HQ.out]; omega) (by intro v hv; obtain ⟨x, _, rfl⟩ := List.mem_map.1 hv; rfl) g _ (Below.refl _ _) (Nat.le_refl _) ?_)
      intro w6 h6 hb6
      have B6 : Hid (Blk w6 g 72 ((grp xl yl).map u16v).toArray) := by
        rw [← HSL.out, ← HQ.out]
        exact Lib.hid h6.out
      have F6 := Lib.hid (show Fr N0 w4 w6 from Fr.of_below (by rw [HGE.out]; exact HB5.out.trans hb6))
      clear h6 hb6 hsl
      go_wp2_with (first
        | (refine wpList_load_row rfl 72 (.tmp 12) rfl g rfl 72 _ (0, 0) _ B6.out Tryz.underlying72 rfl (by rw [HGL.out]; kernel_rfl) ?_)
        | (go_at_call 58; refine (kj _).mono ?_; rintro e w7 ⟨rfl, hf7⟩; have F7 := Lib.hid (F6.out.trans hf7))
        | (refine wpList_store_row rfl 24 _ _ rfl g1 _ rfl rfl _ _ (B4.out.fr F7.out id) rfl rfl (by simp [Value.oneCell']) ?_))
      refine ret_cell2 rfl rfl ((B4.out.fr F7.out id).row _) Tryz.underlying24 rfl ⟨?_, Fr.setRow (HFR.out.trans F7.out) (.inr HG1.out) _⟩
      rw [HE.out]
      rfl
end
end Go.Proofs.YtcameghlkplgfaaGreatDoor
namespace Go.Proofs.YtcameghlkplgfaaGreatDoor
open Go.Proofs Go.Shelf Go.RowKit
/-- What a text is read as: four numbers, or groups; the error's number. -/
def parseR (F : Option Nat) (S : Option Ad) : Ad × Int := match F, S with
  | some lo, _ => (⟨false, 0, lo⟩, 0)
  | none, some a => (a, 0)
  | none, none => (⟨false, 0, 0⟩, 20)
section
variable {w : World}
set_option maxHeartbeats 3200000 in
set_option maxRecDepth 100000 in
theorem parse_ (s : ByteArray) (F : Option Nat) (S : Option Ad) (m : Int) (hm : Mx m w) (hsy : Sy w)
    (h56 : ∀ W : World, Mx m W → Sy W → Calls Tryz.prog 34 #[.string s] W fun e w' => ∃ x, e = .returned (.tuple #[adV ⟨false, 0, x⟩, .bool F.isSome]) ∧ (∀ lo, F = some lo → x = lo) ∧ Fr N0 W w')
    (h57 : ∀ W : World, Mx m W → Sy W → Calls Tryz.prog 35 #[.string s] W fun e w' => e = .returned (.tuple #[adV (S.getD ⟨false, 0, 0⟩), .bool S.isSome]) ∧ Fr N0 W w') :
    Calls Tryz.prog 19 #[.string s] w fun e w' => e = .returned (.tuple #[adV (parseR F S).1, .int .i64 (parseR F S).2]) ∧ Fr N0 w w' := by
  obtain ⟨b, hb⟩ : ∃ b, b = F.isSome := ⟨_, rfl⟩
  obtain ⟨c, hc⟩ : ∃ c, c = S.isSome := ⟨_, rfl⟩
  obtain ⟨a, ha⟩ : ∃ a, a = S.getD ⟨false, 0, 0⟩ := ⟨_, rfl⟩
  rw [← hb] at h56
  rw [← hc, ← ha] at h57
  obtain ⟨r, hr⟩ : ∃ r, r = parseR F S := ⟨_, rfl⟩
  rw [← hr]
  have hcase : (b = true ∧ r.2 = 0 ∧ r.1.six = false ∧ r.1.hi = 0 ∧ ∀ x, (∀ lo, F = some lo → x = lo) → x = r.1.lo) ∨ (b = false ∧ c = true ∧ r = (a, 0)) ∨ (b = false ∧ c = false ∧ r = (⟨false, 0, 0⟩, 20)) := by
    unfold parseR at hr
    cases F with
    | some lo => simp only at hr; subst hr; exact .inl ⟨hb, rfl, rfl, rfl, fun x h => h lo rfl⟩
    | none =>
      cases S with
      | some q => simp only at hr; exact .inr (.inl ⟨hb, hc, by rw [hr, ha]; rfl⟩)
      | none => simp only at hr; exact .inr (.inr ⟨hb, hc, hr⟩)
  clear hr hb hc ha
  obtain ⟨qs, qh, ql⟩ := a
  obtain ⟨⟨rs, rh, rl⟩, rn⟩ := r
  unfold adV at h56 h57 ⊢
  simp only at h56 h57 hcase ⊢
  go_enter Tryz.func19, Tryz.ntmps19
  go_wp2_with fail
  have HA1 := Lib.hid (Blk.new w 24 #[Value.bool false, Value.int .u64 0, Value.int .u64 0])
  have HF1 := Lib.hid (Fr.alloc (Fr.refl N0 w) (.cells #[Value.bool false, Value.int .u64 0, Value.int .u64 0] 24))
  generalize w.alloc _ = w1 at *
  obtain ⟨g1, hg1⟩ : ∃ g1, g1 = w.heap.size := ⟨_, rfl⟩
  rw [← hg1] at HA1 ⊢
  have HG1 : Hid (w.heap.size ≤ g1) := Lib.hid (by omega)
  clear hg1
  have HZ1 : Hid (∀ W, Fr N0 w1 W → Blk W g1 24 #[Value.bool false, Value.int .u64 0, Value.int .u64 0]) := Lib.hid fun W hf => HA1.out.fr hf id
  have F := Lib.hid (Fr.refl N0 w1)
  refine (h56 _ (hm.fr HF1.out) (hsy.fr HF1.out)).mono ?_
  rintro e w2 ⟨x, rfl, hx, hf2⟩
  have HX := Lib.hid hx
  have F2 := Lib.hid hf2
  have B4 := Lib.hid (Blk.new w2 24 #[.bool false, .int .u64 0, .int .u64 (x : Int)])
  have F4 := Lib.hid (hf2.alloc (.cells #[.bool false, .int .u64 0, .int .u64 (x : Int)] 24))
  have B1 := Lib.hid ((HZ1.out _ hf2).alloc (.cells #[.bool false, .int .u64 0, .int .u64 (x : Int)] 24))
  have HNE := Lib.hid (show g1 ≠ w2.heap.size from by have := (HZ1.out _ hf2).lt; omega)
  have HG4 := Lib.hid (show w.heap.size ≤ w2.heap.size from (HF1.out.trans hf2).size)
  clear hx hf2 F2 F HA1 HZ1 h56
  rcases hcase with ⟨rfl, e2, es, eh, he⟩ | ⟨rfl, rfl, he⟩ | ⟨rfl, rfl, he⟩
  · have HR := Lib.hid (show rs = false ∧ rh = 0 ∧ x = rl ∧ rn = 0 from ⟨es, eh, he x HX.out, e2⟩)
    clear e2 es eh he
    go_wp2_with (refine wpList_store_row rfl 24 _ _ rfl g1 _ rfl rfl _ _ B1.out rfl rfl (by simp [Value.oneCell']) ?_)
    refine ret_cell2 rfl rfl (B1.out.row _) Tryz.underlying24 rfl ⟨?_, Fr.setRow (HF1.out.trans F4.out) (.inr HG1.out) _⟩
    obtain ⟨rfl, rfl, rfl, rfl⟩ := HR.out
    rfl
  all_goals
    have HR := Lib.hid he
    clear he
    have h57 := fun W (hf : Fr N0 w1 W) => h57 W (hm.fr (HF1.out.trans hf)) (hsy.fr (HF1.out.trans hf))
    have k57 := h57 _ F4.out
    have B4' := B4
    have N14 := HNE.out
    clear h57
    go_wp2_with fail
    generalize w2.alloc _ = w4 at *
    generalize w2.heap.size = g4 at *
    refine k57.mono ?_
    rintro e w5 ⟨rfl, hf5⟩
    have C4 := Lib.hid (B4.out.fr hf5 id)
    have C1 := Lib.hid (B1.out.fr hf5 id)
    have F5 := Lib.hid (F4.out.trans hf5)
    go_wp2_with (first
      | (refine wpList_store_row rfl 24 _ _ rfl g4 _ rfl rfl _ _ C4.out rfl rfl (by simp [Value.oneCell']) ?_)
      | (refine wpList_load_row rfl 24 _ rfl g4 rfl 24 _ (0, 0) _ (C4.out.row _) Tryz.underlying24 rfl rfl ?_)
      | (refine wpList_store_row rfl 24 _ _ rfl g1 _ rfl rfl _ _ (C1.out.fr (Fr.setRow (Fr.refl (fun i => i = g4) _) (.inl rfl) _) N14) rfl rfl (by simp [Value.oneCell']) ?_))
    refine ret_cell2 rfl rfl ((C1.out.fr (Fr.setRow (Fr.refl (fun i => i = g4) _) (.inl rfl) _) N14).row _) Tryz.underlying24 rfl ⟨?_, Fr.setRow (Fr.setRow (HF1.out.trans F5.out) (.inr HG4.out) _) (.inr HG1.out) _⟩
    have h := HR.out
    simp only [Prod.mk.injEq, Ad.mk.injEq] at h
    obtain ⟨⟨rfl, rfl, rfl⟩, rfl⟩ := h
    rfl
end
end Go.Proofs.YtcameghlkplgfaaGreatDoor
namespace Go.Proofs.YtcameghlkplgfaaGreatDoor
open Go.Proofs Go.Shelf Go.RowKit
def spl (c : UInt8) (s : ByteArray) : List ByteArray := Lib.splitB ⟨#[c]⟩ 0 (Lib.countB s ⟨#[c]⟩) s
def rowP (s : ByteArray) : Option (List Nat) := if s.size = 0 then some [] else hexs ((spl 58 s).map (·.data.toList))
def bA (l : List UInt8) : ByteArray := ⟨l.toArray⟩
def sixP (s : ByteArray) : Option Ad := sixR (rowP (bA (Lib.cut s.data.toList [58, 58]).1)) (rowP (bA (Lib.cut s.data.toList [58, 58]).2.1)) (Lib.cut s.data.toList [58, 58]).2.2
def parseA (s : ByteArray) : Ad × Int := parseR (fourP ((spl 46 s).map (·.data.toList))) (sixP s)
theorem spl_len (c : UInt8) (s : ByteArray) : (spl c s).length ≤ s.size + 1 := by
  have h1 := Lib.splitB_all ⟨#[c]⟩ (show 1 ≤ (⟨#[c]⟩ : ByteArray).size from Nat.le_refl _) 0 _ s rfl
  have h2 := Lib.countB_le ⟨#[c]⟩ (show 1 ≤ (⟨#[c]⟩ : ByteArray).size from Nat.le_refl _) s.size s (Nat.le_refl _)
  unfold spl
  omega
theorem split_at (c : UInt8) (s : ByteArray) (m : Int) (hs : s.size < 4294967281) : ∀ W : World, W.cell? ⟨0, 0, none⟩ = some (.int .i64 m) → Calls Tryz.prog 55 #[.string s, .string ⟨#[c]⟩] W fun e w' => e = .returned (.slice (some ⟨W.heap.size, 0, none⟩) (spl c s).length (spl c s).length) ∧ w' = W.alloc (.cells ((spl c s).map Value.string).toArray 9) := by
  intro W hW
  have i9 : (Tryz.prog.info? 9).map (fun i => (i.zero, i.size, i.bytes)) = some (some (.string ByteArray.empty), 1, 16) := by kernel_rfl
  have h := Any.strings_Split Tryz.splitL i9 s ⟨#[c]⟩ m W hs hW (Nat.le_refl _)
  have h1 := Lib.splitB_all ⟨#[c]⟩ (show 1 ≤ (⟨#[c]⟩ : ByteArray).size from Nat.le_refl _) 0 _ s rfl
  rw [← h1] at h
  exact h
theorem cut_sizes (l sep : List UInt8) : (Lib.cut l sep).1.length ≤ l.length ∧ (Lib.cut l sep).2.1.length ≤ l.length := by
  unfold Lib.cut
  split
  · exact ⟨by simp; omega, by simp⟩
  · exact ⟨Nat.le_refl _, by simp⟩
theorem bA_size (l : List UInt8) : (bA l).size = l.length := by simp [bA, ByteArray.size]
theorem rowP_lt {s : ByteArray} {x : List Nat} (h : rowP s = some x) : ∀ u ∈ x, u < 65536 := by
  unfold rowP at h
  split at h
  · cases h; intro u hu; cases hu
  · exact hexs_lt _ _ h
theorem rowP_len (s : ByteArray) : ((rowP s).getD []).length ≤ s.size + 1 := by
  unfold rowP
  split
  · simp
  · cases h : hexs ((spl 58 s).map (·.data.toList)) with
    | none => simp
    | some us =>
      have := hexs_len _ _ h
      rw [List.length_map] at this
      have h2 := spl_len 58 s
      simp only [Option.getD_some]
      omega
section
variable {w : World}
theorem row_any (s : ByteArray) (m : Int) (hs : s.size < 4294967281) (hm : Mx m w) (hsy : Sy w) : Calls Tryz.prog 57 #[.string s] w fun e w' => ∃ v, e = .returned (.tuple #[v, .bool (rowP s).isSome]) ∧ Bu w w' v ((rowP s).getD []) := by
  by_cases h0 : s.size = 0
  · have e : rowP s = some [] := by unfold rowP; rw [if_pos h0]
    rw [e]
    obtain rfl := empty_of h0
    exact row_nil
  · have e : rowP s = hexs ((spl 58 s).map (·.data.toList)) := by unfold rowP; rw [if_neg h0]
    rw [e]
    have h2 := spl_len 58 s
    exact row_ s h0 (spl 58 s) m hm hsy (by omega) (split_at 58 s m hs)
theorem cut2 (s : ByteArray) (m : Int) (hs : s.size < 4294967281) (hm : Mx m w) : Calls Tryz.prog 18 #[.string s, .string ⟨#[58, 58]⟩] w fun e w' => e = .returned (.tuple #[.string (bA (Lib.cut s.data.toList [58, 58]).1), .string (bA (Lib.cut s.data.toList [58, 58]).2.1), .bool (Lib.cut s.data.toList [58, 58]).2.2]) ∧ Fr N0 w w' := by
  have e : (⟨#[58, 58]⟩ : ByteArray).data.toList = [58, 58] := rfl
  have h := fun x y b => cut_any s ⟨#[58, 58]⟩ m w hm hs x y b
  rw [e] at h
  exact h _ _ _ rfl rfl rfl
set_option maxHeartbeats 1600000 in
set_option maxRecDepth 100000 in
theorem parse_any (s : ByteArray) (m : Int) (hs : s.size < 4294967281) (hm : Mx m w) (hsy : Sy w) : Calls Tryz.prog 19 #[.string s] w fun e w' => e = .returned (.tuple #[adV (parseA s).1, .int .i64 (parseA s).2]) ∧ Fr N0 w w' := by
  have h2 := spl_len 46 s
  have hlen : s.data.toList.length = s.size := Lib.size_eq s
  obtain ⟨c1, c2⟩ := cut_sizes s.data.toList [58, 58]
  have hcut := fun (V : World) (hV : Mx m V) => cut2 (w := V) s m hs hV
  have h6 : sixP s = sixR (rowP (bA (Lib.cut s.data.toList [58, 58]).1)) (rowP (bA (Lib.cut s.data.toList [58, 58]).2.1)) (Lib.cut s.data.toList [58, 58]).2.2 := rfl
  unfold parseA
  rw [h6]
  generalize Lib.cut s.data.toList [58, 58] = c at *
  obtain ⟨x, y, b⟩ := c
  simp only at c1 c2 hcut ⊢
  have r1 := rowP_len (bA x)
  have r2 := rowP_len (bA y)
  have z1 := bA_size x
  have z2 := bA_size y
  have l1 : ∀ u, rowP (bA x) = some u → ∀ v ∈ u, v < 65536 := fun u h => rowP_lt h
  have l2 : ∀ u, rowP (bA y) = some u → ∀ v ∈ u, v < 65536 := fun u h => rowP_lt h
  have q1 := fun (V : World) (hV : Mx m V) (hT : Sy V) => row_any (w := V) (bA x) m (by omega) hV hT
  have q2 := fun (V : World) (hV : Mx m V) (hT : Sy V) => row_any (w := V) (bA y) m (by omega) hV hT
  generalize rowP (bA x) = X at *
  generalize rowP (bA y) = Y at *
  generalize bA x = bx at *
  generalize bA y = bY at *
  clear h6
  refine parse_ s (fourP ((spl 46 s).map (·.data.toList))) (sixR X Y b) m hm hsy (fun W hW hS => four_ s (spl 46 s) m hW hS (by omega) (split_at 46 s m hs)) (fun W hW hS => ?_)
  exact six_ s bx bY b X Y m hW hS l1 l2 (by omega) (by omega) (fun V hV => hcut V hV) q1 q2
end
end Go.Proofs.YtcameghlkplgfaaGreatDoor
namespace Go.Proofs.YtcameghlkplgfaaGreatDoor
open Go.Proofs Go.Shelf Go.RowKit
def cutL (c : UInt8) : List UInt8 → List (List UInt8)
  | [] => [[]]
  | x :: l => if x = c then [] :: cutL c l else match cutL c l with
    | t :: r => (x :: t) :: r
    | [] => [[x]]
theorem cutL_ne (c : UInt8) (l : List UInt8) : ∃ t r, cutL c l = t :: r := by
  cases l with
  | nil => exact ⟨[], [], rfl⟩
  | cons x l =>
    unfold cutL
    split
    · exact ⟨_, _, rfl⟩
    · split
      · exact ⟨_, _, rfl⟩
      · exact ⟨_, _, rfl⟩
theorem ix_hit (c : UInt8) (l : List UInt8) : Lib.index (c :: l) [c] = 0 := by simp [Lib.index, List.isPrefixOf]
theorem ix_miss {x c : UInt8} (h : x ≠ c) (l : List UInt8) : Lib.index (x :: l) [c] = if Lib.index l [c] = -1 then -1 else Lib.index l [c] + 1 := by
  have hp : ([c] : List UInt8).isPrefixOf (x :: l) = false := by simp [List.isPrefixOf, Ne.symm h]
  rw [Lib.index, hp]
  simp
theorem splitK_cut (c : UInt8) : ∀ (l : List UInt8) (k : Nat), l.count c ≤ k → Lib.splitK [c] 0 k l = cutL c l
  | [], k, _ => by
    cases k with
    | zero => rfl
    | succ k => rfl
  | x :: l, k, h => by
    by_cases hx : x = c
    · subst hx
      rw [List.count_cons_self] at h
      obtain ⟨k, rfl⟩ : ∃ j, k = j + 1 := ⟨k - 1, by omega⟩
      have ih := splitK_cut x l k (by omega)
      rw [Lib.splitK, ix_hit, cutL, if_pos rfl, if_neg (by decide)]
      simp [ih]
    · rw [List.count_cons_of_ne (by simpa using hx)] at h
      rw [cutL, if_neg hx]
      cases k with
      | zero =>
        have ih := splitK_cut c l 0 h
        rw [← ih]
        rfl
      | succ k =>
        have ih := splitK_cut c l (k + 1) h
        rw [← ih, Lib.splitK, Lib.splitK, ix_miss hx]
        by_cases hm : Lib.index l [c] = -1
        · rw [if_pos (by rw [if_pos hm]; rfl), hm]
          rfl
        · have hge := Lib.index_ge l [c]
          obtain ⟨j, hj⟩ : ∃ j : Nat, Lib.index l [c] = j := ⟨(Lib.index l [c]).toNat, by omega⟩
          have e1 : ¬ ((j : Int) == -1) = true := fun e => by have := beq_iff_eq.1 e; omega
          have e2 : ¬ ((j : Int) + 1 == -1) = true := fun e => by have := beq_iff_eq.1 e; omega
          rw [if_neg hm, hj, if_neg e1, if_neg e2]
          have e3 : ((j : Int) + 1).toNat = j + 1 := by omega
          rw [e3]
          simp
theorem spl_cut (c : UInt8) (s : ByteArray) : (spl c s).map (·.data.toList) = cutL c s.data.toList := by
  unfold spl
  rw [Lib.splitB_data]
  exact splitK_cut c _ _ (Nat.le_of_eq (Lib.count_one c _).symm)
theorem cutL_one {c : UInt8} : ∀ {t : List UInt8}, c ∉ t → cutL c t = [t]
  | [], _ => rfl
  | x :: t, h => by
    have hx : ¬ x = c := fun e => h (by rw [e]; exact List.mem_cons_self)
    rw [cutL, if_neg hx, cutL_one (fun e => h (List.mem_cons_of_mem _ e))]
theorem cutL_app {c : UInt8} (l : List UInt8) : ∀ {t : List UInt8}, c ∉ t → cutL c (t ++ c :: l) = t :: cutL c l
  | [], _ => by rw [List.nil_append, cutL, if_pos rfl]
  | x :: t, h => by
    have hx : ¬ x = c := fun e => h (by rw [e]; exact List.mem_cons_self)
    rw [List.cons_append, cutL, if_neg hx, cutL_app l (fun e => h (List.mem_cons_of_mem _ e))]
theorem join_nil (c : UInt8) : Lib.join [] [c] = [] := rfl
theorem join_one (t : List UInt8) (c : UInt8) : Lib.join [t] [c] = t := by simp [Lib.join, List.intercalate]
theorem join_two (t u : List UInt8) (r : List (List UInt8)) (c : UInt8) : Lib.join (t :: u :: r) [c] = t ++ c :: Lib.join (u :: r) [c] := by simp [Lib.join, List.intercalate]
theorem cutL_join {c : UInt8} : ∀ (ts : List (List UInt8)), ts ≠ [] → (∀ t ∈ ts, c ∉ t) → cutL c (Lib.join ts [c]) = ts
  | [], h, _ => absurd rfl h
  | [t], _, h => by rw [join_one, cutL_one (h t List.mem_cons_self)]
  | t :: u :: r, _, h => by
    rw [join_two, cutL_app _ (h t List.mem_cons_self), cutL_join (u :: r) (by simp) (fun x hx => h x (List.mem_cons_of_mem _ hx))]
theorem mem_join {c d : UInt8} : ∀ (ts : List (List UInt8)), d ∈ Lib.join ts [c] → d = c ∨ ∃ t ∈ ts, d ∈ t
  | [], h => by rw [join_nil] at h; cases h
  | [t], h => by rw [join_one] at h; exact .inr ⟨t, List.mem_cons_self, h⟩
  | t :: u :: r, h => by
    rw [join_two] at h
    rcases List.mem_append.1 h with h | h
    · exact .inr ⟨t, List.mem_cons_self, h⟩
    · rcases List.mem_cons.1 h with h | h
      · exact .inl h
      · rcases mem_join (u :: r) h with h | ⟨x, hx, h⟩
        · exact .inl h
        · exact .inr ⟨x, List.mem_cons_of_mem _ hx, h⟩
/-- Where '::' stands. -/
theorem cc_skip {x : UInt8} (h : x ≠ 58) (l : List UInt8) : Lib.index (x :: l) [58, 58] = if Lib.index l [58, 58] = -1 then -1 else Lib.index l [58, 58] + 1 := by
  have hp : ([58, 58] : List UInt8).isPrefixOf (x :: l) = false := by simp [List.isPrefixOf, Ne.symm h]
  rw [Lib.index, hp]
  simp
theorem cc_one {x : UInt8} (h : x ≠ 58) (l : List UInt8) : Lib.index (58 :: x :: l) [58, 58] = if Lib.index (x :: l) [58, 58] = -1 then -1 else Lib.index (x :: l) [58, 58] + 1 := by
  have hp : ([58, 58] : List UInt8).isPrefixOf (58 :: x :: l) = false := by simp [List.isPrefixOf, Ne.symm h]
  rw [Lib.index, hp]
  simp
theorem cc_here (l : List UInt8) : Lib.index (58 :: 58 :: l) [58, 58] = 0 := by simp [Lib.index, List.isPrefixOf]
def shI (k : Nat) (i : Int) : Int := if i = -1 then -1 else i + k
theorem shI_shI (a b : Nat) (i : Int) (h : -1 ≤ i) : shI a (shI b i) = shI (a + b) i := by
  unfold shI
  split
  · rfl
  · rw [if_neg (by omega)]; omega
theorem cc_text {l : List UInt8} : ∀ {t : List UInt8}, (58 : UInt8) ∉ t → Lib.index (t ++ l) [58, 58] = shI t.length (Lib.index l [58, 58])
  | [], _ => by
    have := Lib.index_ge l [58, 58]
    unfold shI
    split
    · simp_all
    · simp
  | x :: t, h => by
    rw [List.cons_append, cc_skip (fun e => h (e ▸ List.mem_cons_self)), cc_text (fun e => h (List.mem_cons_of_mem _ e))]
    have := shI_shI 1 t.length _ (Lib.index_ge l [58, 58])
    rw [List.length_cons, Nat.add_comm t.length 1, ← this]
    rfl
theorem cc_join (r : List UInt8) (hr : Lib.index r [58, 58] = -1 ∧ r = [] ∨ Lib.index r [58, 58] = 0) : ∀ (ts : List (List UInt8)), (∀ t ∈ ts, t ≠ [] ∧ (58 : UInt8) ∉ t) → Lib.index (Lib.join ts [58] ++ r) [58, 58] = shI (Lib.join ts [58]).length (Lib.index r [58, 58])
  | [], _ => by
    rw [join_nil, List.nil_append]
    rcases hr with ⟨h, _⟩ | h <;> rw [h] <;> rfl
  | [t], h => by rw [join_one, cc_text (h t List.mem_cons_self).2]
  | t :: u :: us, h => by
    have ih := cc_join r hr (u :: us) (fun x hx => h x (List.mem_cons_of_mem _ hx))
    rw [join_two, List.append_assoc, cc_text (h t List.mem_cons_self).2]
    have hu := h u (List.mem_cons_of_mem _ List.mem_cons_self)
    have hx : ∃ x l, Lib.join (u :: us) [58] = x :: l ∧ x ≠ 58 := by
      obtain ⟨h1, h2⟩ := hu
      cases u with
      | nil => exact absurd rfl h1
      | cons x u =>
        have hn : x ≠ 58 := fun e => h2 (e ▸ List.mem_cons_self)
        cases us with
        | nil => exact ⟨x, u, join_one _ _, hn⟩
        | cons v vs => exact ⟨x, u ++ 58 :: Lib.join (v :: vs) [58], by rw [join_two]; rfl, hn⟩
    obtain ⟨x, l, hj, hn⟩ := hx
    rw [hj] at ih ⊢
    rw [List.cons_append, List.cons_append, cc_one hn, ← List.cons_append, ih]
    have hge := Lib.index_ge r [58, 58]
    have e1 : shI 1 (shI (x :: l).length (Lib.index r [58, 58])) = shI (1 + (x :: l).length) (Lib.index r [58, 58]) := shI_shI _ _ _ hge
    have e2 : shI t.length (shI (1 + (x :: l).length) (Lib.index r [58, 58])) = shI (t.length + (1 + (x :: l).length)) (Lib.index r [58, 58]) := shI_shI _ _ _ hge
    rw [show (if shI (x :: l).length (Lib.index r [58, 58]) = -1 then -1 else shI (x :: l).length (Lib.index r [58, 58]) + 1) = shI 1 (shI (x :: l).length (Lib.index r [58, 58])) from rfl, e1, e2]
    congr 1
    simp [List.length_append]
    omega
/-- A group's text: one to four digits. -/
structure Gt (t : List UInt8) (u : Nat) : Prop where
  ne : t ≠ []
  le : t.length ≤ 4
  val : hexG 0 t = some u
theorem hexD_58 : hexD (58 : UInt8).toNat = none := by decide
theorem hexD_46 : hexD (46 : UInt8).toNat = none := by decide
theorem hexG_mem {d : UInt8} (hd : hexD d.toNat = none) : ∀ (t : List UInt8) (a u : Nat), hexG a t = some u → d ∉ t
  | [], _, _, _ => by simp
  | x :: t, a, u, h => by
    intro hm
    unfold hexG at h
    rcases List.mem_cons.1 hm with e | e
    · subst e
      rw [hd] at h
      simp at h
    · cases hx : hexD x.toNat with
      | none => rw [hx] at h; simp at h
      | some v =>
        rw [hx] at h
        exact hexG_mem hd t _ u h e
theorem Gt.colon {t : List UInt8} {u : Nat} (h : Gt t u) : (58 : UInt8) ∉ t := hexG_mem hexD_58 t 0 u h.val
theorem Gt.dot {t : List UInt8} {u : Nat} (h : Gt t u) : (46 : UInt8) ∉ t := hexG_mem hexD_46 t 0 u h.val
theorem Gt.num {t : List UInt8} {u : Nat} (h : Gt t u) : num16 t = some u := by
  unfold num16
  rw [if_neg (by have := h.ne; have := h.le; have : t.length ≠ 0 := fun e => h.ne (List.eq_nil_of_length_eq_zero e); omega)]
  exact h.val
def Gts : List (List UInt8) → List Nat → Prop
  | [], [] => True
  | t :: ts, u :: us => Gt t u ∧ Gts ts us
  | _, _ => False
theorem Gts.hexs : ∀ {ts : List (List UInt8)} {us : List Nat}, Gts ts us → hexs ts = some us
  | [], [], _ => rfl
  | t :: ts, u :: us, h => by
    unfold Go.Proofs.YtcameghlkplgfaaGreatDoor.hexs
    rw [h.1.num, Gts.hexs h.2]
  | [], _ :: _, h => h.elim
  | _ :: _, [], h => h.elim
theorem Gts.all : ∀ {ts : List (List UInt8)} {us : List Nat}, Gts ts us → ∀ t ∈ ts, t ≠ [] ∧ (58 : UInt8) ∉ t ∧ (46 : UInt8) ∉ t
  | [], [], _ => by simp
  | t :: ts, u :: us, h => by
    intro x hx
    rcases List.mem_cons.1 hx with rfl | hx
    · exact ⟨h.1.ne, h.1.colon, h.1.dot⟩
    · exact Gts.all h.2 x hx
  | [], _ :: _, h => h.elim
  | _ :: _, [], h => h.elim
theorem Gts.len : ∀ {ts : List (List UInt8)} {us : List Nat}, Gts ts us → ts.length = us.length
  | [], [], _ => rfl
  | t :: ts, u :: us, h => by simp [Gts.len h.2]
  | [], _ :: _, h => h.elim
  | _ :: _, [], h => h.elim
theorem bA_list (l : List UInt8) : (bA l).data.toList = l := by simp [bA]
theorem rowP_join {ts : List (List UInt8)} {us : List Nat} (h : Gts ts us) : rowP (bA (Lib.join ts [58])) = some us := by
  unfold rowP
  cases ts with
  | nil =>
    cases us with
    | nil => rfl
    | cons _ _ => exact h.elim
  | cons t ts =>
    have hall := h.all
    have hne : (bA (Lib.join (t :: ts) [58])).size ≠ 0 := by
      rw [bA_size]
      intro e
      have e := List.eq_nil_of_length_eq_zero e
      have ht := (hall t List.mem_cons_self).1
      cases ts with
      | nil => rw [join_one] at e; exact ht e
      | cons u r => rw [join_two] at e; simp at e
    rw [if_neg hne, spl_cut, bA_list, cutL_join _ (by simp) (fun x hx => (hall x hx).2.1)]
    exact h.hexs
theorem four_none {s : ByteArray} (h : (46 : UInt8) ∉ s.data.toList) : fourP ((spl 46 s).map (·.data.toList)) = none := by
  rw [spl_cut, cutL_one h]
  unfold fourP
  rw [if_neg (by simp)]
theorem dot_join {ts : List (List UInt8)} {us : List Nat} (h : Gts ts us) : (46 : UInt8) ∉ Lib.join ts [58] := by
  intro hm
  rcases mem_join ts hm with e | ⟨t, ht, e⟩
  · exact absurd e (by decide)
  · exact (h.all t ht).2.2 e
/-- Eight groups. -/
theorem parse_full {ts : List (List UInt8)} {us : List Nat} (h : Gts ts us) (h8 : us.length = 8) : parseA (bA (Lib.join ts [58])) = (adG us, 0) := by
  have hix : Lib.index (Lib.join ts [58]) [58, 58] = -1 := by
    have := cc_join [] (.inl ⟨rfl, rfl⟩) ts (fun t ht => ⟨(h.all t ht).1, (h.all t ht).2.1⟩)
    rw [List.append_nil] at this
    rw [this]
    rfl
  have hc : Lib.cut (Lib.join ts [58]) [58, 58] = (Lib.join ts [58], [], false) := by
    unfold Lib.cut
    rw [if_neg (by omega)]
  unfold parseA
  rw [four_none (by rw [bA_list]; exact dot_join h)]
  unfold sixP
  rw [bA_list, hc]
  simp only
  rw [rowP_join h, show rowP (bA []) = some [] from rfl]
  unfold sixR parseR
  simp [h8, grp]
/-- Groups with a :: among them. -/
theorem parse_gap {ts vs : List (List UInt8)} {us xs : List Nat} (h : Gts ts us) (k : Gts vs xs) (h7 : us.length + xs.length ≤ 7) : parseA (bA (Lib.join ts [58] ++ 58 :: 58 :: Lib.join vs [58])) = (adG (grp us xs), 0) := by
  have hix : Lib.index (Lib.join ts [58] ++ 58 :: 58 :: Lib.join vs [58]) [58, 58] = (Lib.join ts [58]).length := by
    have := cc_join (58 :: 58 :: Lib.join vs [58]) (.inr (cc_here _)) ts (fun t ht => ⟨(h.all t ht).1, (h.all t ht).2.1⟩)
    rw [this, cc_here]
    unfold shI
    simp
  have hc : Lib.cut (Lib.join ts [58] ++ 58 :: 58 :: Lib.join vs [58]) [58, 58] = (Lib.join ts [58], Lib.join vs [58], true) := by
    unfold Lib.cut
    rw [if_pos (by omega), hix]
    simp
  unfold parseA
  rw [four_none (by
    rw [bA_list]
    intro hm
    rcases List.mem_append.1 hm with e | e
    · exact dot_join h e
    · rcases List.mem_cons.1 e with e | e
      · exact absurd e (by decide)
      · rcases List.mem_cons.1 e with e | e
        · exact absurd e (by decide)
        · exact dot_join k e)]
  unfold sixP
  rw [bA_list, hc]
  simp only
  rw [rowP_join h, rowP_join k]
  have e : sixR (some us) (some xs) true = some (adG (grp us xs)) := by
    unfold sixR
    exact if_neg (by simp; omega)
  rw [e]
  rfl
end Go.Proofs.YtcameghlkplgfaaGreatDoor
namespace Go.Proofs.YtcameghlkplgfaaGreatDoor
open Go.Proofs Go.Shelf Go.RowKit
theorem hexD_hd : ∀ d, d < 16 → hexD (hd d).toNat = some d := by decide +kernel
theorem hexG_hd {d a : Nat} {r : List UInt8} (h : d < 16) : hexG a (hd d :: r) = hexG (a * 16 + d) r := by
  rw [hexG, hexD_hd d h]
theorem gt_hx {u : Nat} (h : u < 65536) : Gt (hxT u) u := by
  have hn := hxT_len u
  have hl := nh_le u
  refine ⟨fun e => by rw [e] at hn; simp at hn; omega, by omega, ?_⟩
  have key : ∀ k, nh u = k → 1 ≤ k → k ≤ 4 → u < 16 ^ k → hexG 0 (hxT u) = some u := by
    intro k hk h1 h4 hu
    unfold hxT
    rw [hk]
    match k, h1, h4, hu with
    | 1, _, _, hu =>
      simp only [List.range_succ, List.range_zero, List.nil_append, List.map_cons, List.map_nil]
      rw [hexG_hd (Nat.mod_lt _ (by omega))]
      show some _ = _
      congr 1
      simp at hu ⊢
      omega
    | 2, _, _, hu =>
      simp only [List.range_succ, List.range_zero, List.nil_append, List.cons_append, List.map_cons, List.map_nil]
      rw [hexG_hd (Nat.mod_lt _ (by omega)), hexG_hd (Nat.mod_lt _ (by omega))]
      show some _ = _
      congr 1
      simp at hu ⊢
      omega
    | 3, _, _, hu =>
      simp only [List.range_succ, List.range_zero, List.nil_append, List.cons_append, List.map_cons, List.map_nil]
      rw [hexG_hd (Nat.mod_lt _ (by omega)), hexG_hd (Nat.mod_lt _ (by omega)), hexG_hd (Nat.mod_lt _ (by omega))]
      show some _ = _
      congr 1
      simp at hu ⊢
      omega
    | 4, _, _, hu =>
      simp only [List.range_succ, List.range_zero, List.nil_append, List.cons_append, List.map_cons, List.map_nil]
      rw [hexG_hd (Nat.mod_lt _ (by omega)), hexG_hd (Nat.mod_lt _ (by omega)), hexG_hd (Nat.mod_lt _ (by omega)), hexG_hd (Nat.mod_lt _ (by omega))]
      show some _ = _
      congr 1
      simp at hu ⊢
      omega
  refine key (nh u) rfl hl.1 hl.2 ?_
  unfold nh
  repeat' split
  all_goals simp
  all_goals omega
theorem gts_hx : ∀ (us : List Nat), (∀ u ∈ us, u < 65536) → Gts (us.map hxT) us
  | [], _ => trivial
  | u :: us, h => ⟨gt_hx (h u List.mem_cons_self), gts_hx us fun x hx => h x (List.mem_cons_of_mem _ hx)⟩
theorem zr_zero (us : List Nat) : ∀ (n i t : Nat), t < zr us i n → us[i + t]? = some 0
  | 0, i, t, h => by unfold zr at h; omega
  | n + 1, i, t, h => by
    unfold zr at h
    split at h
    · rename_i h0
      cases t with
      | zero => exact h0
      | succ t =>
        have := zr_zero us n (i + 1) t (by omega)
        rw [show i + (t + 1) = i + 1 + t by omega]
        exact this
    · omega
theorem gapS_zero (us : List Nat) : ∀ (i t : Nat), (gapS us i).1 ≤ t → t < (gapS us i).2 → us[t]? = some 0
  | 0, t, _, h => by unfold gapS at h; omega
  | i + 1, t, h1, h2 => by
    unfold gapS at h1 h2
    split at h1
    · rename_i hc
      rw [if_pos hc] at h2
      simp only at h1 h2
      have := zr_zero us 8 i (t - i) (by omega)
      rwa [show i + (t - i) = t by omega] at this
    · rename_i hc
      rw [if_neg hc] at h2
      exact gapS_zero us i t h1 h2
theorem gapP_zero (us : List Nat) (t : Nat) (h1 : (gapP us).1 ≤ t) (h2 : t < (gapP us).2) : us[t]? = some 0 := by
  unfold gapP at h1 h2
  split at h1
  · rename_i e
    rw [if_pos e] at h2
    rw [e, List.getElem?_replicate, if_pos h2]
  · rename_i e
    rw [if_neg e] at h2
    split at h1
    · rename_i e2
      rw [if_pos e2] at h2
      omega
    · rename_i e2
      rw [if_neg e2] at h2
      exact gapS_zero us 8 t h1 h2
theorem gapP_two (us : List Nat) (h : (gapP us).2 ≠ 0) : (gapP us).1 + 2 ≤ (gapP us).2 := by
  unfold gapP at h ⊢
  split
  · simp
  · rename_i e
    rw [if_neg e] at h
    split
    · rename_i e2
      rw [if_pos e2] at h
      exact absurd rfl h
    · omega
/-- Groups of which a row of groups of 0 is left out. -/
theorem grp_of {us : List Nat} (h8 : us.length = 8) {a b : Nat} (hab : a ≤ b) (hb : b ≤ 8) (hz : ∀ t, a ≤ t → t < b → us[t]? = some 0) : grp (us.take a) (us.drop b) = us := by
  unfold grp
  apply List.ext_getElem?
  intro k
  have e1 : (us.take a).length = a := by simp; omega
  have e2 : (us.drop b).length = 8 - b := by simp; omega
  rw [e1, e2, show 8 - (a + (8 - b)) = b - a by omega]
  by_cases h1 : k < a
  · rw [List.getElem?_append_left (by omega), List.getElem?_take, if_pos h1]
  · rw [List.getElem?_append_right (by omega), e1]
    by_cases h2 : k < b
    · rw [List.getElem?_append_left (by simp; omega), List.getElem?_replicate, if_pos (by omega), hz k (by omega) h2]
    · rw [List.getElem?_append_right (by simp; omega), List.length_replicate, List.getElem?_drop]
      congr 1
      omega
theorem txG_bA (us : List Nat) : txG us = bA (Lib.join (us.map hxT) [58]) := rfl
theorem bA_app (a b : List UInt8) : bA a ++ bA b = bA (a ++ b) := by
  unfold bA
  apply ByteArray.ext
  simp
theorem parse_txt6 {us : List Nat} (h8 : us.length = 8) (hlt : ∀ u ∈ us, u < 65536) : parseA (txt6 us) = (adG us, 0) := by
  unfold txt6
  by_cases h0 : (gapP us).2 = 0
  · rw [if_pos h0, txG_bA]
    exact parse_full (gts_hx us hlt) h8
  · rw [if_neg h0, txG_bA, txG_bA, show (⟨#[58, 58]⟩ : ByteArray) = bA [58, 58] from rfl, bA_app, bA_app, List.append_assoc]
    have h2 := gapP_two us h0
    have h3 := (gapP_le us h8).2
    have e := parse_gap (gts_hx (us.take (gapP us).1) fun u hu => hlt u (List.mem_of_mem_take hu)) (gts_hx (us.drop (gapP us).2) fun u hu => hlt u (List.mem_of_mem_drop hu)) (by simp; omega)
    rw [grp_of h8 (by omega) h3 (fun t a b => gapP_zero us t a b)] at e
    exact e
theorem adG_gs {h l : Nat} (h1 : h < 18446744073709551616) (h2 : l < 18446744073709551616) : adG (gsA ⟨true, h, l⟩) = ⟨true, h, l⟩ := by
  unfold adG gsA
  simp only [List.range_succ, List.range_zero, List.nil_append, List.cons_append, List.map_cons, List.map_nil, List.take_succ_cons, List.take_zero, List.drop_succ_cons, List.drop_zero]
  unfold jn grA
  simp
  omega
theorem parse_six {h l : Nat} (h1 : h < 18446744073709551616) (h2 : l < 18446744073709551616) : parseA (txt6 (gsA ⟨true, h, l⟩)) = (⟨true, h, l⟩, 0) := by
  rw [parse_txt6 (gsA_len _) (gsA_lt _), adG_gs h1 h2]
theorem oct_dd : ∀ x, x < 256 → octP (Lib.decDigits x) = some x ∧ (46 : UInt8) ∉ Lib.decDigits x := by decide +kernel
theorem octs_dd : ∀ (l : List Nat), (∀ x ∈ l, x < 256) → octs (l.map Lib.decDigits) = some l
  | [], _ => rfl
  | x :: l, h => by
    rw [List.map_cons, octs, (oct_dd x (h x List.mem_cons_self)).1, octs_dd l fun y hy => h y (List.mem_cons_of_mem _ hy)]
theorem txt4_bA (l : Nat) : txt4 l = bA (Lib.join ((bytesA ⟨false, 0, l⟩).map Lib.decDigits) [46]) := by
  unfold txt4 tx4 bA
  rw [bytes_lo]
  simp [List.range_succ]
theorem acc_lo {l : Nat} (h : l < 4294967296) : acc (bytesA ⟨false, 0, l⟩) = l := by
  rw [bytes_lo]
  unfold acc byteA
  simp [List.range_succ]
  omega
theorem parse_four {l : Nat} (h : l < 4294967296) : parseA (txt4 l) = (⟨false, 0, l⟩, 0) := by
  have hb : ∀ x ∈ bytesA ⟨false, 0, l⟩, x < 256 := by
    intro x hx
    rw [bytes_lo] at hx
    obtain ⟨k, _, rfl⟩ := List.mem_map.1 hx
    exact byteA_lt _ _
  unfold parseA
  rw [txt4_bA, spl_cut, bA_list, cutL_join _ (by rw [bytes_lo]; simp) (by
    intro t ht
    obtain ⟨x, hx, rfl⟩ := List.mem_map.1 ht
    exact (oct_dd x (hb x hx)).2)]
  unfold fourP
  rw [octs_dd _ hb, if_pos (by rw [bytes_lo]; simp)]
  simp only [Option.map_some, acc_lo h]
  rfl
/-- What a right address is told as is read as it. -/
def txtA (a : Ad) : ByteArray := if a.six = true then txt6 (gsA a) else txt4 a.lo
theorem parse_txtA {a : Ad} (ho : a.ok) (hv : validA a = true) : parseA (txtA a) = (a, 0) := by
  obtain ⟨s, h, l⟩ := a
  unfold txtA
  cases s with
  | true => exact parse_six ho.1 ho.2
  | false =>
    simp [validA] at hv
    obtain ⟨rfl, hv⟩ := hv
    exact parse_four hv
theorem ofB_bytes {a : Ad} (ho : a.ok) (hv : validA a = true) : ofB (bytesA a) = (a, 0) := by
  obtain ⟨s, h, l⟩ := a
  unfold ofB
  cases s with
  | true =>
    rw [bytes_hi, if_neg (by simp), if_pos (by simp)]
    obtain ⟨h1, h2⟩ := ho
    simp only at h1 h2
    unfold acc byteA
    simp [List.range_succ]
    omega
  | false =>
    simp [validA] at hv
    obtain ⟨rfl, hv⟩ := hv
    rw [if_pos (by rw [bytes_lo]; simp), acc_lo hv]
end Go.Proofs.YtcameghlkplgfaaGreatDoor
namespace Go.Proofs.YtcameghlkplgfaaGreatDoor
open Go.Proofs Go.Shelf Go.RowKit
section
variable {w : World}
set_option maxHeartbeats 1600000 in
set_option maxRecDepth 100000 in
theorem zeros_ (g c : Nat) (us : List Nat) (h8 : us.length = 8) (hB : ∀ (k u : Nat), us[k]? = some u → w.cell? ⟨g, k, none⟩ = some (.int .u64 (u : Int))) (i : Nat) (hi : i ≤ 8) :
    Calls Tryz.prog 51 #[.slice (some ⟨g, 0, none⟩) 8 c, .int .i64 (i : Int)] w fun e w' => e = .returned (.int .i64 (zr us i 8 : Int)) ∧ w = w' := by
  have HB := Lib.hid hB
  have H8 := Lib.hid h8
  clear hB h8
  go_enter Tryz.func51, Tryz.ntmps51
  go_wp2
  go_loop [5] (fun n => ∃ d : Nat, i + d ≤ 8 ∧ n = .int .i64 (d : Int) ∧ Hid (∀ t, t < d → us[i + t]? = some 0)) (fun n => 9 - (intOf n).toNat)
  case atStart => exact ⟨0, by omega, rfl, Lib.hid fun t h => by omega⟩
  case round =>
    obtain ⟨d, hd, rfl, HZ⟩ := hrel
    by_cases h8 : i + d < 8
    · obtain ⟨u, hu⟩ : ∃ u, us[i + d]? = some u := ⟨us[i + d]'(by rw [H8.out]; exact h8), List.getElem?_eq_getElem _⟩
      have hc := HB.out _ _ hu
      have HU := Lib.hid hu
      have hI : (i : Int) + (d : Int) < 8 := by omega
      clear hu
      by_cases h0 : u = 0
      · subst h0
        go_wp2
        go_round
        case rel => exact ⟨d + 1, by omega, by go_num, Lib.hid fun t h => by
          by_cases e : t = d
          · subst e; exact HU.out
          · exact HZ.out t (by omega)⟩
        case measure => simp [intOf]; omega
      · have hne : ((u : Int) == 0) = false := by simp; omega
        have HE := Lib.hid (zr_is us d i 8 (by omega) HZ.out (by rw [HU.out]; simpa using h0))
        clear h0
        go_wp2
        go_ret
        exact ⟨by rw [HE.out]; rfl, rfl⟩
    · obtain rfl : d = 8 - i := by omega
      have HE := Lib.hid (zr_is us (8 - i) i 8 (by omega) HZ.out (by rw [show i + (8 - i) = 8 by omega, List.getElem?_eq_none (by rw [H8.out]; exact Nat.le_refl _)]; simp))
      have hI : ¬ ((i : Int) + ((8 - i : Nat) : Int) < 8) := by omega
      go_wp2
      go_ret
      exact ⟨by rw [HE.out]; rfl, rfl⟩
end
def atS (us : List Nat) : Nat → Nat
  | 0 => 0
  | i + 1 => if zr us (atS us i) 8 < zr us (i + 1) 8 then i + 1 else atS us i
theorem atS_le (us : List Nat) : ∀ i, atS us i ≤ i
  | 0 => Nat.le_refl _
  | i + 1 => by
    have := atS_le us i
    unfold atS
    split <;> omega
theorem gapS_at (us : List Nat) : ∀ i, gapS us (i + 1) = (atS us i, atS us i + zr us (atS us i) 8)
  | 0 => by
    unfold gapS atS gapS
    split
    · simp
    · simp at *; omega
  | i + 1 => by
    rw [gapS, gapS_at us i, atS]
    simp only
    by_cases h : zr us (atS us i) 8 < zr us (i + 1) 8
    · rw [if_pos (by omega), if_pos h]
    · rw [if_neg (by omega), if_neg h]
def atM (us : List Nat) : Nat := atS us 7
def manyM (us : List Nat) : Nat := zr us (atM us) 8
theorem txt6_at (us : List Nat) : txt6 us = if 1 < manyM us then txG (us.take (atM us)) ++ ⟨#[58, 58]⟩ ++ txG (us.drop (atM us + manyM us)) else txG us := by
  have hg := gapS_at us 7
  unfold txt6 gapP
  by_cases e : us = List.replicate 8 0
  · subst e
    decide +kernel
  · rw [if_neg e, hg]
    simp only
    rw [Nat.add_sub_cancel_left]
    by_cases h : 1 < manyM us
    · unfold manyM atM at h ⊢
      rw [if_neg (show ¬ zr us (atS us 7) 8 < 2 by omega), if_pos h]
      simp only
      rw [if_neg (by omega)]
    · unfold manyM atM at h ⊢
      rw [if_pos (show zr us (atS us 7) 8 < 2 by omega), if_neg h]
      rfl
theorem manyM_le {us : List Nat} (h8 : us.length = 8) : atM us + manyM us ≤ 8 := zr_le us h8 8 _ (by have := atS_le us 7; unfold atM; omega)
theorem join_snoc (c : UInt8) (x : List UInt8) : ∀ (l : List (List UInt8)), l ≠ [] → Lib.join (l ++ [x]) [c] = Lib.join l [c] ++ c :: x
  | [], h => absurd rfl h
  | [t], _ => by rw [List.singleton_append, join_two, join_one, join_one]
  | t :: u :: r, _ => by
    have ih := join_snoc c x (u :: r) (by simp)
    rw [join_two, List.cons_append, List.cons_append, join_two, ← List.cons_append, ih]
    simp
/-- What is told behind some groups. -/
def pT (us : List Nat) (i : Nat) : List UInt8 :=
  if 1 < manyM us ∧ atM us < i then Lib.join ((us.take (atM us)).map hxT) [58] ++ 58 :: 58 :: Lib.join (((us.drop (atM us + manyM us)).take (i - (atM us + manyM us))).map hxT) [58]
  else Lib.join ((us.take i).map hxT) [58]
theorem pT_zero (us : List Nat) : pT us 0 = [] := by
  unfold pT
  rw [if_neg (by omega)]
  rfl
theorem pT_gap {us : List Nat} (h : 1 < manyM us) : pT us (atM us + manyM us) = pT us (atM us) ++ [58, 58] := by
  unfold pT
  rw [if_pos ⟨h, by omega⟩, if_neg (by omega), Nat.sub_self]
  rfl
theorem pT_all {us : List Nat} (h8 : us.length = 8) : bA (pT us 8) = txt6 us := by
  have hm := manyM_le h8
  rw [txt6_at]
  unfold pT
  by_cases h : 1 < manyM us
  · have eT : (us.drop (atM us + manyM us)).take (8 - (atM us + manyM us)) = us.drop (atM us + manyM us) := List.take_of_length_le (by rw [List.length_drop]; omega)
    rw [if_pos ⟨h, by omega⟩, if_pos h, txG_bA, txG_bA, show (⟨#[58, 58]⟩ : ByteArray) = bA [58, 58] from rfl, bA_app, bA_app, List.append_assoc, eT]
    rfl
  · rw [if_neg (fun k => h k.1), if_neg h, List.take_of_length_le (by omega), txG_bA]
/-- The last byte of a text. -/
def lastC (l : List UInt8) : Option UInt8 := l.getLast?
theorem hx_last {u : Nat} (h : u < 65536) (l : List UInt8) : ∃ c, (l ++ hxT u).getLast? = some c ∧ c ≠ 58 := by
  have g := gt_hx h
  obtain ⟨c, hc⟩ : ∃ c, (hxT u).getLast? = some c := by
    cases e : (hxT u).getLast? with
    | none => exact absurd (List.getLast?_eq_none_iff.1 e) g.ne
    | some c => exact ⟨c, rfl⟩
  refine ⟨c, by rw [List.getLast?_append, hc]; rfl, ?_⟩
  rintro rfl
  exact g.colon (List.mem_of_getLast? hc)
theorem hx_last_join {us : List Nat} (hlt : ∀ u ∈ us, u < 65536) (hne : us ≠ []) (l : List UInt8) : ∃ c, (l ++ Lib.join (us.map hxT) [58]).getLast? = some c ∧ c ≠ 58 := by
  rcases List.eq_nil_or_concat us with rfl | ⟨r, u, rfl⟩
  · exact absurd rfl hne
  · rw [List.concat_eq_append] at hlt ⊢
    rw [List.map_append, List.map_singleton]
    have hu := hlt u (by simp)
    cases r with
    | nil =>
      rw [List.map_nil, List.nil_append, join_one]
      exact hx_last hu l
    | cons x r =>
      rw [join_snoc _ _ _ (by simp), ← List.append_assoc]
      have := hx_last hu (l ++ Lib.join ((x :: r).map hxT) [58] ++ [58])
      simpa using this
theorem take_map_snoc {us : List Nat} {i u : Nat} (hu : us[i]? = some u) : (us.take (i + 1)).map hxT = (us.take i).map hxT ++ [hxT u] := by
  obtain ⟨hi, rfl⟩ := List.getElem?_eq_some_iff.1 hu
  rw [List.take_succ_eq_append_getElem hi, List.map_append]
  rfl
/-- One group more: with a colon ahead, or not. -/
theorem pT_next {us : List Nat} (h8 : us.length = 8) (hlt : ∀ u ∈ us, u < 65536) {i u : Nat} (hu : us[i]? = some u) (hi : ¬ (1 < manyM us ∧ i = atM us)) (hok : ¬ (1 < manyM us ∧ atM us < i) ∨ atM us + manyM us ≤ i) :
    (i = 0 ∧ pT us (i + 1) = pT us i ++ hxT u) ∨ (0 < i ∧ (∃ c, (pT us i).getLast? = some c ∧ c ≠ 58) ∧ pT us (i + 1) = pT us i ++ 58 :: hxT u) ∨ (0 < i ∧ (pT us i).getLast? = some 58 ∧ pT us (i + 1) = pT us i ++ hxT u) := by
  have hi8 := (List.getElem?_eq_some_iff.1 hu).1
  by_cases h : 1 < manyM us ∧ atM us < i
  · have hge := hok.resolve_left (fun k => k h)
    right
    have e1 : pT us i = Lib.join ((us.take (atM us)).map hxT) [58] ++ 58 :: 58 :: Lib.join (((us.drop (atM us + manyM us)).take (i - (atM us + manyM us))).map hxT) [58] := by unfold pT; rw [if_pos h]
    have e2 : pT us (i + 1) = Lib.join ((us.take (atM us)).map hxT) [58] ++ 58 :: 58 :: Lib.join (((us.drop (atM us + manyM us)).take (i - (atM us + manyM us) + 1)).map hxT) [58] := by
      unfold pT
      rw [if_pos ⟨h.1, by omega⟩, show i + 1 - (atM us + manyM us) = i - (atM us + manyM us) + 1 by omega]
    have hu' : (us.drop (atM us + manyM us))[i - (atM us + manyM us)]? = some u := by
      rw [List.getElem?_drop, show atM us + manyM us + (i - (atM us + manyM us)) = i by omega]
      exact hu
    rw [take_map_snoc hu'] at e2
    generalize i - (atM us + manyM us) = d at *
    generalize hT : (us.drop (atM us + manyM us)).take d = T at *
    have hT16 : ∀ u ∈ T, u < 65536 := fun u h => hlt u (List.mem_of_mem_drop (List.mem_of_mem_take (by rw [hT]; exact h)))
    rw [e1, e2]
    cases T with
    | nil =>
      right
      refine ⟨by omega, ?_, ?_⟩
      · rw [List.map_nil, join_nil]
        simp
      · rw [List.map_nil, List.nil_append, join_one, join_nil]
        simp
    | cons x T =>
      left
      refine ⟨by omega, ?_, ?_⟩
      · have := hx_last_join hT16 (by simp) (Lib.join ((us.take (atM us)).map hxT) [58] ++ [58, 58])
        simpa using this
      · rw [join_snoc _ _ _ (by simp)]
        simp
  · have e1 : pT us i = Lib.join ((us.take i).map hxT) [58] := by unfold pT; rw [if_neg h]
    have e2 : pT us (i + 1) = Lib.join ((us.take (i + 1)).map hxT) [58] := by
      unfold pT
      rw [if_neg (by omega)]
    rw [take_map_snoc hu] at e2
    rw [e1, e2]
    by_cases h0 : i = 0
    · left
      subst h0
      refine ⟨rfl, ?_⟩
      rw [List.take_zero, List.map_nil, List.nil_append, join_one, join_nil]
      rfl
    · right; left
      have hne : us.take i ≠ [] := by
        intro e
        have := congrArg List.length e
        rw [List.length_take] at this
        simp only [List.length_nil] at this
        omega
      refine ⟨by omega, ?_, ?_⟩
      · have := hx_last_join (us := us.take i) (fun u h => hlt u (List.mem_of_mem_take h)) hne []
        simpa using this
      · rw [join_snoc _ _ _ (by simpa using hne)]
theorem pT_len {us : List Nat} (h8 : us.length = 8) (i : Nat) : (pT us i).length ≤ 100 := by
  have hj : ∀ (l : List Nat), (Lib.join (l.map hxT) [58]).length ≤ 5 * l.length := fun l => by
    have := txG_size l
    rw [txG_bA, bA_size] at this
    exact this
  unfold pT
  split
  · have h1 := hj (us.take (atM us))
    have h2 := hj ((us.drop (atM us + manyM us)).take (i - (atM us + manyM us)))
    rw [List.length_take] at h1
    rw [List.length_take, List.length_drop] at h2
    rw [List.length_append, List.length_cons, List.length_cons]
    omega
  · have h1 := hj (us.take i)
    rw [List.length_take] at h1
    omega
theorem dgl_hx {u : Nat} (h : u < 65536) : dgl 16 u = hxT u := by
  have m1 : ∀ n, n % 16 < 16 := fun n => Nat.mod_lt _ (by omega)
  unfold hxT nh
  by_cases h1 : u < 16
  · rw [if_pos h1, dgl_lo h1]
    simp [List.range_succ, Nat.mod_eq_of_lt h1]
  · rw [if_neg h1, dgl_hi (by omega) (by omega)]
    by_cases h2 : u < 256
    · rw [if_pos h2, dgl_lo (by omega)]
      simp [List.range_succ]
      rw [Nat.mod_eq_of_lt (by omega)]
    · rw [if_neg h2, dgl_hi (by omega) (by omega)]
      by_cases h3 : u < 4096
      · rw [if_pos h3, dgl_lo (by omega)]
        simp [List.range_succ, Nat.div_div_eq_div_mul]
        rw [Nat.mod_eq_of_lt (by omega)]
      · rw [if_neg h3, dgl_hi (by omega) (by omega), dgl_lo (by omega)]
        simp [List.range_succ, Nat.div_div_eq_div_mul]
        rw [Nat.mod_eq_of_lt (by omega)]
theorem dgl_dd : ∀ x, x < 256 → dgl 10 x = Lib.decDigits x := by decide +kernel
end Go.Proofs.YtcameghlkplgfaaGreatDoor
namespace Go.Proofs.YtcameghlkplgfaaGreatDoor
open Go.Proofs Go.Shelf Go.RowKit
def prtA (a : Ad) : ByteArray := if validA a = true then txtA a else ⟨#[]⟩
section
variable {w : World}
set_option maxHeartbeats 1600000 in
set_option maxRecDepth 100000 in
theorem rprt_bad (a : Ad) (hv : validA a = false) : Calls Tryz.prog 25 #[adV a] w fun e w' => e = .returned (.string ⟨#[]⟩) ∧ Fr N0 w w' := by
  obtain ⟨s, h, l⟩ := a
  have c29 : ∀ (w : World) {b : Bool}, validA ⟨s, h, l⟩ = b → Calls Tryz.prog 40 #[.agg #[.bool s, .int .u64 (h : Int), .int .u64 (l : Int)]] w fun e w' => e = .returned (.bool b) ∧ Fr N0 w w' := fun w b hb => hb ▸ rval (w := w) ⟨s, h, l⟩
  have k29 := fun w => c29 w hv
  clear c29 hv
  go_enter Tryz.func25, Tryz.ntmps25
  unfold adV
  go_wp2_with fail
  have HA1 := Lib.hid (Blk.new w 24 #[Value.bool s, Value.int .u64 (h : Int), Value.int .u64 (l : Int)])
  have HF1 := Lib.hid (Fr.alloc (Fr.refl N0 w) (.cells #[Value.bool s, Value.int .u64 (h : Int), Value.int .u64 (l : Int)] 24))
  generalize w.alloc _ = w1 at *
  obtain ⟨g1, hg1⟩ : ∃ g1, g1 = w.heap.size := ⟨_, rfl⟩
  rw [← hg1] at HA1 ⊢
  have HG1 : Hid (w.heap.size ≤ g1) := Lib.hid (by omega)
  clear hg1
  have HZ1 : Hid (∀ W, Fr N0 w1 W → Blk W g1 24 #[Value.bool s, Value.int .u64 (h : Int), Value.int .u64 (l : Int)]) := Lib.hid fun W hf => HA1.out.fr hf id
  have F := Lib.hid (Fr.refl N0 w1)
  obtain ⟨z1_0, z1_1, z1_2⟩ := (HZ1.out _ F.out).c3
  go_wp2_with (first
    | (go_at_call 40; refine (k29 _).mono ?_; rintro e w2 ⟨rfl, hf⟩; have F := Lib.hid (F.out.trans hf); obtain ⟨z1_0, z1_1, z1_2⟩ := (HZ1.out _ F.out).c3))
  go_ret
  exact ⟨rfl, HF1.out.trans F.out⟩
set_option maxHeartbeats 1600000 in
set_option maxRecDepth 100000 in
theorem prt_bad (a : Ad) (hv : validA a = false) : Calls Tryz.prog 23 #[adV a] w fun e w' => e = .returned (.string ⟨#[]⟩) ∧ Fr N0 w w' := by
  obtain ⟨s, h, l⟩ := a
  have c29 : ∀ (w : World) {b : Bool}, validA ⟨s, h, l⟩ = b → Calls Tryz.prog 27 #[.agg #[.bool s, .int .u64 (h : Int), .int .u64 (l : Int)]] w fun e w' => e = .returned (.bool b) ∧ Fr N0 w w' := fun w b hb => hb ▸ aval (w := w) ⟨s, h, l⟩
  have k29 := fun w => c29 w hv
  clear c29 hv
  go_enter Tryz.func23, Tryz.ntmps23
  unfold adV
  go_wp2_with fail
  have HA1 := Lib.hid (Blk.new w 24 #[Value.bool s, Value.int .u64 (h : Int), Value.int .u64 (l : Int)])
  have HF1 := Lib.hid (Fr.alloc (Fr.refl N0 w) (.cells #[Value.bool s, Value.int .u64 (h : Int), Value.int .u64 (l : Int)] 24))
  generalize w.alloc _ = w1 at *
  obtain ⟨g1, hg1⟩ : ∃ g1, g1 = w.heap.size := ⟨_, rfl⟩
  rw [← hg1] at HA1 ⊢
  have HG1 : Hid (w.heap.size ≤ g1) := Lib.hid (by omega)
  clear hg1
  have HZ1 : Hid (∀ W, Fr N0 w1 W → Blk W g1 24 #[Value.bool s, Value.int .u64 (h : Int), Value.int .u64 (l : Int)]) := Lib.hid fun W hf => HA1.out.fr hf id
  have F := Lib.hid (Fr.refl N0 w1)
  obtain ⟨z1_0, z1_1, z1_2⟩ := (HZ1.out _ F.out).c3
  go_wp2_with (first
    | (go_at_call 27; refine (k29 _).mono ?_; rintro e w2 ⟨rfl, hf⟩; have F := Lib.hid (F.out.trans hf); obtain ⟨z1_0, z1_1, z1_2⟩ := (HZ1.out _ F.out).c3))
  go_ret
  exact ⟨rfl, HF1.out.trans F.out⟩
/-- addr.Print of any address. -/
theorem prt_ (a : Ad) (ht : T10 w) (hd : D4 w) : Calls Tryz.prog 23 #[adV a] w fun e w' => e = .returned (.string (prtA a)) ∧ Fr N0 w w' := by
  unfold prtA
  cases hv : validA a with
  | false => exact prt_bad a hv
  | true =>
    rw [if_pos rfl]
    obtain ⟨s, h, l⟩ := a
    unfold txtA
    cases s with
    | true => exact prt6 h l hd
    | false =>
      simp [validA] at hv
      obtain ⟨rfl, hv⟩ := hv
      exact prt4 l hv ht
def p4 (bs : List Nat) (j : Nat) : List UInt8 := Lib.join ((bs.take j).map Lib.decDigits) [46]
theorem p4_next {bs : List Nat} {j x : Nat} (hx : bs[j]? = some x) : (j = 0 ∧ p4 bs (j + 1) = p4 bs j ++ Lib.decDigits x) ∨ (0 < j ∧ p4 bs (j + 1) = p4 bs j ++ 46 :: Lib.decDigits x) := by
  obtain ⟨hi, rfl⟩ := List.getElem?_eq_some_iff.1 hx
  unfold p4
  rw [List.take_succ_eq_append_getElem hi, List.map_append, List.map_singleton]
  by_cases h0 : j = 0
  · left
    subst h0
    refine ⟨rfl, ?_⟩
    rw [List.take_zero, List.map_nil, List.nil_append, join_one, join_nil]
    rfl
  · right
    refine ⟨by omega, ?_⟩
    rw [join_snoc]
    intro e
    have := congrArg List.length e
    rw [List.length_map, List.length_take] at this
    simp only [List.length_nil] at this
    omega
theorem p4_len {bs : List Nat} (hlt : ∀ x ∈ bs, x < 256) : ∀ (j : Nat), (p4 bs j).length ≤ 4 * j
  | 0 => by unfold p4; simp [join_nil]
  | j + 1 => by
    have ih := p4_len hlt j
    cases hx : bs[j]? with
    | none =>
      have e : bs.take (j + 1) = bs.take j := by
        rw [List.take_of_length_le, List.take_of_length_le]
        · exact List.getElem?_eq_none_iff.1 hx
        · have := List.getElem?_eq_none_iff.1 hx; omega
      unfold p4 at ih ⊢
      rw [e]
      omega
    | some x =>
      have h3 := dd_le3 (hlt x (List.mem_of_getElem? hx))
      rcases p4_next hx with ⟨_, e⟩ | ⟨_, e⟩ <;> rw [e, List.length_append]
      · omega
      · rw [List.length_cons]; omega
theorem bA_cat (a b : List UInt8) : (⟨a.toArray⟩ : ByteArray) ++ ⟨b.toArray⟩ = ⟨(a ++ b).toArray⟩ := by
  apply ByteArray.ext
  simp
set_option maxHeartbeats 3200000 in
set_option maxRecDepth 100000 in
theorem rprt4 (l : Nat) (hl : l < 4294967296) : Calls Tryz.prog 25 #[adV ⟨false, 0, l⟩] w fun e w' => e = .returned (.string (txt4 l)) ∧ Fr N0 w w' := by
  have hv : validA ⟨false, 0, l⟩ = true := by simp [validA, hl]
  have hby := fun (w : World) => rbyt (w := w) ⟨false, 0, l⟩ ⟨by simp, by simp only; omega⟩
  rw [if_pos hv] at hby
  have k29 : ∀ (w : World), Calls Tryz.prog 40 #[.agg #[.bool false, .int .u64 0, .int .u64 (l : Int)]] w fun e w' => e = .returned (.bool true) ∧ Fr N0 w w' := fun w => by
    have := rval (w := w) ⟨false, 0, l⟩
    rwa [hv] at this
  have htx : txt4 l = bA (p4 (bytesA ⟨false, 0, l⟩) 4) := by
    rw [txt4_bA]
    unfold p4
    rw [List.take_of_length_le (by rw [bytesA_len]; simp)]
  have h4 : (bytesA ⟨false, 0, l⟩).length = 4 := bytesA_len _
  have hb : ∀ x ∈ bytesA ⟨false, 0, l⟩, x < 256 := by
    intro x hx
    rw [bytes_lo] at hx
    obtain ⟨k, _, rfl⟩ := List.mem_map.1 hx
    exact byteA_lt _ _
  unfold adV at hby
  rw [htx]
  generalize bytesA ⟨false, 0, l⟩ = bs at *
  have H4 := Lib.hid h4
  have HBB := Lib.hid hb
  clear hv htx h4 hb
  go_enter Tryz.func25, Tryz.ntmps25
  unfold adV
  go_wp2_with fail
  have HA1 := Lib.hid (Blk.new w 24 #[Value.bool false, Value.int .u64 0, Value.int .u64 (l : Int)])
  have HF1 := Lib.hid (Fr.alloc (Fr.refl N0 w) (.cells #[Value.bool false, Value.int .u64 0, Value.int .u64 (l : Int)] 24))
  generalize w.alloc _ = w1 at *
  obtain ⟨g1, hg1⟩ : ∃ g1, g1 = w.heap.size := ⟨_, rfl⟩
  rw [← hg1] at HA1 ⊢
  have HG1 : Hid (w.heap.size ≤ g1) := Lib.hid (by omega)
  clear hg1
  have HZ1 : Hid (∀ W, Fr N0 w1 W → Blk W g1 24 #[Value.bool false, Value.int .u64 0, Value.int .u64 (l : Int)]) := Lib.hid fun W hf => HA1.out.fr hf id
  have F := Lib.hid (Fr.refl N0 w1)
  obtain ⟨z1_0, z1_1, z1_2⟩ := (HZ1.out _ F.out).c3
  go_wp2_with (first
    | (go_at_call 40; refine (k29 _).mono ?_; rintro e w2 ⟨rfl, hf⟩; have F := Lib.hid (F.out.trans hf); obtain ⟨z1_0, z1_1, z1_2⟩ := (HZ1.out _ F.out).c3))
  refine (hby _).mono ?_
  rintro e w3 ⟨v, rfl, A, c, rfl, hO, hg, hf⟩
  have HF3 := Lib.hid (HF1.out.trans (F.out.trans hf))
  rw [H4.out] at hO ⊢
  obtain ⟨gb, rfl, hcell⟩ := own_bytes hO (by omega)
  have HCL := Lib.hid hcell
  clear hO hg hf hcell hby z1_0 z1_1 z1_2 F HZ1 HA1 HG1 HF1 k29
  go_wp2_with fail
  go_loop [3, 5] (fun s i => ∃ j : Nat, j ≤ 4 ∧ i = .int .i64 (j : Int) ∧ s = .string ⟨(p4 bs j).toArray⟩) (fun _ i => 5 - (intOf i).toNat)
  case atStart => exact ⟨0, by omega, rfl, rfl⟩
  case round =>
    obtain ⟨j, hj, rfl, rfl⟩ := hrel
    by_cases hj4 : j < 4
    · have hjI : (j : Int) < 4 := by omega
      obtain ⟨x, hx⟩ : ∃ x, bs[j]? = some x := ⟨bs[j]'(by rw [H4.out]; exact hj4), List.getElem?_eq_getElem _⟩
      have hc := HCL.out _ _ hx
      have hx256 := HBB.out x (List.mem_of_getElem? hx)
      have hlen := p4_len HBB.out j
      have hd3 := dd_le3 hx256
      have kd := fun (w : World) => dgs_ (w := w) 10 x (by omega) (by omega) (by omega)
      rw [dgl_dd x hx256] at kd
      have hn := p4_next hx
      generalize p4 bs j = T at *
      generalize Lib.decDigits x = D at *
      have hTl : T.length ≤ 100 := by omega
      have hw64 : IntKind.u64.wrap (x : Int) = (x : Int) := IntWalk.u64_in _ (by omega)
      clear hx hlen
      rcases hn with ⟨h0, e⟩ | ⟨h0, e⟩
      · subst h0
        have HE := Lib.hid e
        clear e
        go_wp2_with (go_at_call 26; refine (kd _).mono ?_; rintro e w5 ⟨rfl, rfl⟩)
        go_round
        case rel => exact ⟨1, by omega, rfl, congrArg Value.string ((bA_cat _ _).trans (congrArg (fun t : List UInt8 => (⟨t.toArray⟩ : ByteArray)) HE.out.symm))⟩
        case measure => simp [intOf]
      · have HE := Lib.hid e
        clear e
        go_wp2_with (go_at_call 26; refine (kd _).mono ?_; rintro e w5 ⟨rfl, rfl⟩)
        go_round
        case rel => exact ⟨j + 1, by omega, by go_num, congrArg Value.string (by rw [HE.out, show T ++ 46 :: D = (T ++ [46]) ++ D by simp, ← bA_cat, ← bA_cat])⟩
        case measure => simp [intOf]; omega
    · obtain rfl : j = 4 := by omega
      go_wp2_with fail
      go_ret
      exact ⟨rfl, HF3.out⟩
end
end Go.Proofs.YtcameghlkplgfaaGreatDoor
namespace Go.Proofs.YtcameghlkplgfaaGreatDoor
open Go.Proofs Go.Shelf Go.RowKit
/-- The bytes of a row of texts, one more for each. -/
def tl : List (List UInt8) → Nat
  | [] => 0
  | t :: ts => t.length + 1 + tl ts
def nl : List Nat → Nat
  | [] => 0
  | u :: us => nh u + 1 + nl us
theorem nl_app : ∀ (a b : List Nat), nl (a ++ b) = nl a + nl b
  | [], b => by simp [nl]
  | u :: a, b => by
    have := nl_app a b
    simp only [List.cons_append, nl]
    omega
theorem nl_zero : ∀ n, nl (List.replicate n 0) = 2 * n
  | 0 => rfl
  | n + 1 => by
    have := nl_zero n
    rw [List.replicate_succ, nl, this]
    have : nh 0 = 1 := by decide
    omega
theorem tl_cut (c : UInt8) : ∀ (l : List UInt8), tl (cutL c l) = l.length + 1
  | [] => rfl
  | x :: l => by
    have ih := tl_cut c l
    obtain ⟨t, r, e⟩ := cutL_ne c l
    unfold cutL
    rw [e] at ih ⊢
    split
    · rw [tl, ih]; simp; omega
    · simp only [tl, List.length_cons] at ih ⊢
      omega
theorem nh_num {t : List UInt8} {u : Nat} (h : num16 t = some u) : nh u ≤ t.length := by
  unfold num16 at h
  split at h
  · cases h
  · have h1 := hexG_lt t 0 u h
    have hl : t.length = 1 ∨ t.length = 2 ∨ t.length = 3 ∨ t.length = 4 := by omega
    have h4 := (nh_le u).2
    unfold nh at h4 ⊢
    rcases hl with e | e | e | e <;> rw [e] at h1 ⊢ <;> simp at h1 <;> (repeat' split) <;> omega
theorem nl_hexs : ∀ (ts : List (List UInt8)) (us : List Nat), hexs ts = some us → nl us ≤ tl ts
  | [], us, h => by cases h; simp [nl]
  | t :: ts, us, h => by
    unfold hexs at h
    cases h1 : num16 t with
    | none => rw [h1] at h; cases h
    | some u =>
      cases h2 : hexs ts with
      | none => rw [h1, h2] at h; cases h
      | some vs =>
        rw [h1, h2] at h
        cases h
        have a := nh_num h1
        have b := nl_hexs ts vs h2
        simp only [nl, tl]
        omega
/-- What a text of groups is read as has no more digits than it. -/
theorem rowP_nl {s : ByteArray} {us : List Nat} (h : rowP s = some us) : nl us ≤ s.size + (if us = [] then 0 else 1) ∧ (us = [] → s.size = 0) := by
  unfold rowP at h
  split at h
  · rename_i h0
    cases h
    exact ⟨Nat.zero_le _, fun _ => h0⟩
  · rw [spl_cut] at h
    have h1 := nl_hexs _ _ h
    rw [tl_cut, show s.data.toList.length = s.size from Lib.size_eq s] at h1
    have h2 := hexs_len _ _ h
    obtain ⟨t, r, e⟩ := cutL_ne 58 s.data.toList
    have hne : us ≠ [] := by
      intro e2
      rw [e2, e] at h2
      simp at h2
    rw [if_neg hne]
    exact ⟨h1, fun e => absurd e hne⟩
theorem tl_join (c : UInt8) : ∀ (ts : List (List UInt8)), ts ≠ [] → (Lib.join ts [c]).length + 1 = tl ts
  | [], h => absurd rfl h
  | [t], _ => by rw [join_one]; simp [tl]
  | t :: u :: r, _ => by
    have := tl_join c (u :: r) (by simp)
    rw [join_two]
    simp only [tl, List.length_append, List.length_cons] at this ⊢
    omega
theorem tl_hx : ∀ (us : List Nat), tl (us.map hxT) = nl us
  | [] => rfl
  | u :: us => by
    rw [List.map_cons, tl, nl, tl_hx us, hxT_len]
theorem txG_nl (us : List Nat) : (txG us).size + (if us = [] then 0 else 1) = nl us := by
  rw [txG_bA, bA_size]
  by_cases h : us = []
  · subst h
    rfl
  · rw [if_neg h, tl_join _ _ (by simpa using h), tl_hx]
theorem atS_max (us : List Nat) : ∀ i j, j ≤ i → zr us j 8 ≤ zr us (atS us i) 8
  | 0, j, h => by
    obtain rfl : j = 0 := by omega
    exact Nat.le_refl _
  | i + 1, j, h => by
    have ih := fun h => atS_max us i j h
    have ih2 := atS_max us i i (Nat.le_refl _)
    unfold atS
    split
    · by_cases e : j = i + 1
      · subst e; exact Nat.le_refl _
      · have := ih (by omega); omega
    · by_cases e : j = i + 1
      · subst e; omega
      · exact ih (by omega)
theorem zr_ge (us : List Nat) : ∀ (d i n : Nat), d ≤ n → (∀ t, t < d → us[i + t]? = some 0) → d ≤ zr us i n
  | 0, _, _, _, _ => Nat.zero_le _
  | d + 1, i, 0, h, _ => by omega
  | d + 1, i, n + 1, h, hz => by
    have h0 : us[i]? = some 0 := hz 0 (by omega)
    have := zr_ge us d (i + 1) n (by omega) (fun t ht => by rw [show i + 1 + t = i + (t + 1) by omega]; exact hz (t + 1) (by omega))
    unfold zr
    rw [if_pos h0]
    omega
theorem nl_split {us : List Nat} {a b : Nat} (hab : a ≤ b) (hb : b ≤ us.length) (hz : ∀ t, a ≤ t → t < b → us[t]? = some 0) : nl us = nl (us.take a) + 2 * (b - a) + nl (us.drop b) := by
  have e : us = us.take a ++ (List.replicate (b - a) 0 ++ us.drop b) := by
    apply List.ext_getElem?
    intro k
    have e1 : (us.take a).length = a := by rw [List.length_take]; omega
    by_cases h1 : k < a
    · rw [List.getElem?_append_left (by omega), List.getElem?_take, if_pos h1]
    · rw [List.getElem?_append_right (by omega), e1]
      by_cases h2 : k < b
      · rw [List.getElem?_append_left (by rw [List.length_replicate]; omega), List.getElem?_replicate, if_pos (by omega), hz k (by omega) h2]
      · rw [List.getElem?_append_right (by rw [List.length_replicate]; omega), List.length_replicate, List.getElem?_drop]
        congr 1
        omega
  have := congrArg nl e
  rw [nl_app, nl_app, nl_zero] at this
  omega
theorem nil_len {us : List Nat} : (if us = [] then 0 else 1) = (if us.length = 0 then 0 else 1) := by
  cases us <;> simp
theorem manyM_zero (us : List Nat) (t : Nat) (h1 : atM us ≤ t) (h2 : t < atM us + manyM us) : us[t]? = some 0 := by
  have := zr_zero us 8 (atM us) (t - atM us) (by unfold manyM at h2; omega)
  rwa [show atM us + (t - atM us) = t by omega] at this
/-- The size of the text of groups. -/
theorem txt6_nl {us : List Nat} (h8 : us.length = 8) : (txt6 us).size = if 1 < manyM us then nl us + 2 - 2 * manyM us - (if atM us = 0 then 0 else 1) - (if atM us + manyM us = 8 then 0 else 1) else nl us - 1 := by
  have hm := manyM_le h8
  rw [txt6_at]
  by_cases h : 1 < manyM us
  · rw [if_pos h, if_pos h]
    have a := txG_nl (us.take (atM us))
    have b := txG_nl (us.drop (atM us + manyM us))
    have c := nl_split (us := us) (show atM us ≤ atM us + manyM us by omega) (by omega) (manyM_zero us)
    rw [nil_len, List.length_take] at a
    rw [nil_len, List.length_drop] at b
    rw [ByteArray.size_append, ByteArray.size_append, show (⟨#[58, 58]⟩ : ByteArray).size = 2 from rfl]
    have a1 : (if min (atM us) us.length = 0 then 0 else 1) = (if atM us = 0 then 0 else 1) := by
      have : min (atM us) us.length = atM us := by omega
      rw [this]
    have b1 : (if us.length - (atM us + manyM us) = 0 then 0 else 1) = (if atM us + manyM us = 8 then 0 else 1) := by
      by_cases e : atM us + manyM us = 8
      · rw [if_pos (by omega), if_pos e]
      · rw [if_neg (by omega), if_neg e]
    rw [a1] at a
    rw [b1] at b
    generalize nl us = N at *
    generalize nl (us.take (atM us)) = A at *
    generalize nl (us.drop (atM us + manyM us)) = B at *
    generalize (txG (us.take (atM us))).size = x at *
    generalize (txG (us.drop (atM us + manyM us))).size = y at *
    split at a <;> split at b <;> simp_all <;> omega
  · rw [if_neg h, if_neg h]
    have a := txG_nl us
    rw [nil_len, h8] at a
    simp at a
    omega
theorem grp_len {X Y : List Nat} (h : X.length + Y.length ≤ 8) : (grp X Y).length = 8 := by
  unfold grp
  simp
  omega
theorem nl_len (X : List Nat) : ((if X = [] then 0 else 1) = 0 ∧ X.length = 0 ∧ nl X = 0) ∨ ((if X = [] then 0 else 1) = 1 ∧ 1 ≤ X.length) := by
  cases X with
  | nil => exact .inl ⟨rfl, rfl, rfl⟩
  | cons u r => exact .inr ⟨rfl, by simp⟩
/-- Of groups with a :: among them. -/
theorem txt6_gap {X Y : List Nat} (h7 : X.length + Y.length ≤ 7) {P Q : Nat} (hP : nl X ≤ P + (if X = [] then 0 else 1)) (hQ : nl Y ≤ Q + (if Y = [] then 0 else 1)) : (txt6 (grp X Y)).size ≤ P + Q + 3 := by
  have hN : nl (grp X Y) = nl X + 2 * (8 - (X.length + Y.length)) + nl Y := by
    unfold grp
    rw [nl_app, nl_app, nl_zero]
    omega
  have h8 := grp_len (show X.length + Y.length ≤ 8 by omega)
  have hz : 8 - (X.length + Y.length) ≤ manyM (grp X Y) := by
    have h1 := zr_ge (grp X Y) (8 - (X.length + Y.length)) X.length 8 (by omega) (by
      intro t ht
      unfold grp
      rw [List.getElem?_append_right (by omega), List.getElem?_append_left (by rw [List.length_replicate]; omega), List.getElem?_replicate, if_pos (by omega)])
    have h2 := atS_max (grp X Y) 7 X.length (by omega)
    unfold manyM atM
    omega
  have hm := manyM_le h8
  have hs := txt6_nl h8
  have hx := nl_len X
  have hy := nl_len Y
  rw [hN] at hs
  generalize (txt6 (grp X Y)).size = S at *
  generalize manyM (grp X Y) = k at *
  generalize atM (grp X Y) = a at *
  generalize nl X = p at *
  generalize nl Y = q at *
  generalize (if X = [] then 0 else 1) = x0 at *
  generalize (if Y = [] then 0 else 1) = y0 at *
  split at hs
  · split at hs <;> split at hs <;> omega
  · omega
theorem txt6_full {us : List Nat} (h8 : us.length = 8) {P : Nat} (hP : nl us ≤ P + 1) : (txt6 us).size ≤ P := by
  have hm := manyM_le h8
  have hs := txt6_nl h8
  split at hs
  · split at hs <;> split at hs <;> omega
  · omega
theorem gsA_adG {us : List Nat} (h8 : us.length = 8) (hlt : ∀ u ∈ us, u < 65536) : gsA (adG us) = us := by
  match us, h8 with
  | [a, b, c, d, e, f, g, h], _ =>
    have ha := hlt a (by simp)
    have hb := hlt b (by simp)
    have hc := hlt c (by simp)
    have hd := hlt d (by simp)
    have he := hlt e (by simp)
    have hf := hlt f (by simp)
    have hg := hlt g (by simp)
    have hh := hlt h (by simp)
    clear hlt
    unfold gsA adG grA jn
    simp [List.range_succ]
    omega
theorem adG_ok {us : List Nat} (h8 : us.length = 8) (hlt : ∀ u ∈ us, u < 65536) : (adG us).ok := by
  unfold adG Ad.ok
  exact ⟨jn_lt 4 _ (by simp; omega) fun u hu => hlt u (List.mem_of_mem_take hu), jn_lt 4 _ (by simp; omega) fun u hu => hlt u (List.mem_of_mem_drop hu)⟩
theorem oct_len : ∀ {t : List UInt8} {u : Nat}, octP t = some u → (Lib.decDigits u).length ≤ t.length := by
  intro t u h
  have h256 := octP_lt h
  unfold octP at h
  cases hn : num10 t with
  | none => rw [hn] at h; cases h
  | some v =>
    rw [hn] at h
    simp only at h
    split at h
    · cases h
    · cases h
      unfold num10 at hn
      split at hn
      · cases hn
      · have h1 := decG_lt t 0 u hn
        have h3 := dd_le3 h256
        have h10 : ∀ x, x < 256 → (Lib.decDigits x).length = if x < 10 then 1 else if x < 100 then 2 else 3 := by decide +kernel
        rw [h10 u h256] at h3 ⊢
        have hl : t.length = 1 ∨ t.length = 2 ∨ t.length = 3 := by omega
        rcases hl with e | e | e <;> rw [e] at h1 ⊢ <;> simp at h1 <;> (repeat' split) <;> omega
theorem tl_octs : ∀ (ts : List (List UInt8)) (us : List Nat), octs ts = some us → tl (us.map Lib.decDigits) ≤ tl ts
  | [], us, h => by cases h; simp [tl]
  | t :: ts, us, h => by
    simp only [octs] at h
    cases h1 : octP t with
    | none => rw [h1] at h; cases h
    | some u =>
      cases h2 : octs ts with
      | none => rw [h1, h2] at h; cases h
      | some vs =>
        rw [h1, h2] at h
        cases h
        have a := oct_len h1
        have b := tl_octs ts vs h2
        simp only [List.map_cons, tl]
        omega
theorem acc_bytes {us : List Nat} (h4 : us.length = 4) (hlt : ∀ u ∈ us, u < 256) : acc us < 4294967296 ∧ bytesA ⟨false, 0, acc us⟩ = us := by
  match us, h4 with
  | [a, b, c, d], _ =>
    have ha := hlt a (by simp)
    have hb := hlt b (by simp)
    have hc := hlt c (by simp)
    have hd := hlt d (by simp)
    clear hlt
    rw [bytes_lo]
    unfold acc byteA
    simp [List.range_succ]
    omega
/-- Whatever is read as an address. -/
theorem parse_short (s : ByteArray) : ((parseA s).2 = 0 ∧ validA (parseA s).1 = true ∧ (parseA s).1.ok ∧ (txtA (parseA s).1).size ≤ s.size + 1) ∨ parseA s = (⟨false, 0, 0⟩, 20) := by
  unfold parseA
  cases hF : fourP ((spl 46 s).map (·.data.toList)) with
  | some lo =>
    left
    unfold parseR
    simp only
    unfold fourP at hF
    split at hF
    · rename_i h4
      cases ho : octs ((spl 46 s).map (·.data.toList)) with
      | none => rw [ho] at hF; cases hF
      | some us =>
        rw [ho] at hF
        cases hF
        have hl := (octs_len _ _ ho).trans h4
        have h256 := octs_lt _ _ ho
        obtain ⟨hlt, hb⟩ := acc_bytes hl h256
        refine ⟨trivial, by simp [validA, hlt], ⟨by simp, by simp only; omega⟩, ?_⟩
        unfold txtA
        rw [if_neg (by simp)]
        have h1 := tl_octs _ _ ho
        rw [spl_cut, tl_cut, show s.data.toList.length = s.size from Lib.size_eq s] at h1
        simp only
        rw [txt4_bA, hb, bA_size]
        have h2 := tl_join 46 (us.map Lib.decDigits) (by intro e; have := congrArg List.length e; simp at this; rw [this] at hl; cases hl)
        omega
    · cases hF
  | none =>
    cases hS : sixP s with
    | none => right; rfl
    | some a =>
      left
      unfold parseR
      simp only
      unfold sixP sixR at hS
      cases hX : rowP (bA (Lib.cut s.data.toList [58, 58]).1) with
      | none => rw [hX] at hS; cases hS
      | some X =>
        cases hY : rowP (bA (Lib.cut s.data.toList [58, 58]).2.1) with
        | none => rw [hX, hY] at hS; cases hS
        | some Y =>
          rw [hX, hY] at hS
          simp only at hS
          have x16 := rowP_lt hX
          have y16 := rowP_lt hY
          have x1 := rowP_nl hX
          have y1 := rowP_nl hY
          rw [bA_size] at x1 y1
          have hlen : s.data.toList.length = s.size := Lib.size_eq s
          have g16 : ∀ u ∈ grp X Y, u < 65536 := by
            intro u hu
            unfold grp at hu
            rcases List.mem_append.1 hu with h | h
            · exact x16 u h
            · rcases List.mem_append.1 h with h | h
              · have := List.eq_of_mem_replicate h; omega
              · exact y16 u h
          cases hb : (Lib.cut s.data.toList [58, 58]).2.2 with
          | true =>
            rw [hb] at hS
            split at hS
            · cases hS
            · rename_i hn
              have h7 : X.length + Y.length ≤ 7 := by simp at hn; omega
              cases hS
              have h8 := grp_len (show X.length + Y.length ≤ 8 by omega)
              refine ⟨trivial, rfl, adG_ok h8 g16, ?_⟩
              unfold txtA
              rw [if_pos (show (adG (grp X Y)).six = true from rfl), gsA_adG h8 g16]
              have h1 := txt6_gap h7 x1.1 y1.1
              have h2 : (Lib.cut s.data.toList [58, 58]).1.length + 2 + (Lib.cut s.data.toList [58, 58]).2.1.length = s.size := by
                have hr := Lib.index_room s.data.toList [58, 58]
                unfold Lib.cut at hb ⊢
                split at hb
                · rename_i h0
                  rw [if_pos h0]
                  have := hr h0
                  simp only [List.length_take, List.length_drop, List.length_cons, List.length_nil] at this ⊢
                  omega
                · cases hb
              omega
          | false =>
            rw [hb] at hS
            split at hS
            · cases hS
            · rename_i hn
              have h8' : X.length + Y.length = 8 := by simp at hn; omega
              cases hS
              have h2 : (Lib.cut s.data.toList [58, 58]).1 = s.data.toList ∧ (Lib.cut s.data.toList [58, 58]).2.1 = [] := by
                unfold Lib.cut at hb ⊢
                split at hb
                · cases hb
                · rename_i h0
                  rw [if_neg h0]
                  exact ⟨rfl, rfl⟩
              rw [h2.2] at hY
              rw [h2.1] at x1
              have : Y = [] := by
                have : rowP (bA []) = some [] := rfl
                rw [this] at hY
                cases hY
                rfl
              subst this
              have h8 := grp_len (show X.length + ([] : List Nat).length ≤ 8 by omega)
              have e : grp X [] = X := by
                unfold grp
                simp at h8' ⊢
                omega
              rw [e] at g16 ⊢
              have hX8 : X.length = 8 := by simpa using h8'
              refine ⟨trivial, rfl, adG_ok hX8 g16, ?_⟩
              unfold txtA
              rw [if_pos (show (adG X).six = true from rfl), gsA_adG hX8 g16]
              have h3 := txt6_full hX8 (P := s.size) (by have := x1.1; split at this <;> omega)
              omega
end Go.Proofs.YtcameghlkplgfaaGreatDoor
namespace Go.Proofs.YtcameghlkplgfaaGreatDoor
open Go.Proofs Go.Shelf Go.RowKit
theorem last_at {T : List UInt8} {c : UInt8} (h : T.getLast? = some c) : T[T.length - 1]? = some c := by
  rw [← h, List.getLast?_eq_getElem?]
theorem last_len {T : List UInt8} {c : UInt8} (h : T.getLast? = some c) : 1 ≤ T.length := by
  cases T with
  | nil => cases h
  | cons _ _ => simp
theorem last_byte {T : List UInt8} {c : UInt8} (h : T.getLast? = some c) {p : T.length - 1 < (⟨T.toArray⟩ : ByteArray).size} : (⟨T.toArray⟩ : ByteArray)[T.length - 1]'p = c := by
  have h1 := last_at h
  obtain ⟨q, h2⟩ := List.getElem?_eq_some_iff.1 h1
  exact h2
section
variable {w : World}
set_option maxHeartbeats 6400000 in
set_option maxRecDepth 100000 in
theorem rprt6 (h l : Nat) (ho : (⟨true, h, l⟩ : Ad).ok) : Calls Tryz.prog 25 #[adV ⟨true, h, l⟩] w fun e w' => e = .returned (.string (txt6 (gsA ⟨true, h, l⟩))) ∧ Fr N0 w w' := by
  have hgr := fun (w : World) => grps_ (w := w) h l ho
  have k29 : ∀ (w : World), Calls Tryz.prog 40 #[.agg #[.bool true, .int .u64 (h : Int), .int .u64 (l : Int)]] w fun e w' => e = .returned (.bool true) ∧ Fr N0 w w' := fun w => rval (w := w) ⟨true, h, l⟩
  have h8 : (gsA ⟨true, h, l⟩).length = 8 := gsA_len _
  have hb := gsA_lt ⟨true, h, l⟩
  unfold adV at hgr
  generalize gsA ⟨true, h, l⟩ = us at *
  rw [← pT_all h8]
  have H8 := Lib.hid h8
  have HBB := Lib.hid hb
  clear h8 hb ho
  go_enter Tryz.func25, Tryz.ntmps25
  unfold adV
  go_wp2_with fail
  have HA1 := Lib.hid (Blk.new w 24 #[Value.bool true, Value.int .u64 (h : Int), Value.int .u64 (l : Int)])
  have HF1 := Lib.hid (Fr.alloc (Fr.refl N0 w) (.cells #[Value.bool true, Value.int .u64 (h : Int), Value.int .u64 (l : Int)] 24))
  generalize w.alloc _ = w1 at *
  obtain ⟨g1, hg1⟩ : ∃ g1, g1 = w.heap.size := ⟨_, rfl⟩
  rw [← hg1] at HA1 ⊢
  have HG1 : Hid (w.heap.size ≤ g1) := Lib.hid (by omega)
  clear hg1
  have HZ1 : Hid (∀ W, Fr N0 w1 W → Blk W g1 24 #[Value.bool true, Value.int .u64 (h : Int), Value.int .u64 (l : Int)]) := Lib.hid fun W hf => HA1.out.fr hf id
  have F := Lib.hid (Fr.refl N0 w1)
  obtain ⟨z1_0, z1_1, z1_2⟩ := (HZ1.out _ F.out).c3
  go_wp2_with (first
    | (go_at_call 40; refine (k29 _).mono ?_; rintro e w2 ⟨rfl, hf⟩; have F := Lib.hid (F.out.trans hf); obtain ⟨z1_0, z1_1, z1_2⟩ := (HZ1.out _ F.out).c3))
  refine (hgr _).mono ?_
  rintro e w3 ⟨v, rfl, A, c, rfl, hO, hg, hf⟩
  have HF3 := Lib.hid (HF1.out.trans (F.out.trans hf))
  rw [H8.out] at hO ⊢
  obtain ⟨gb, rfl, hcell⟩ := own_u64 hO (by omega)
  have HCL := Lib.hid hcell
  have KZ := Lib.hid fun (i : Nat) (hi : i ≤ 8) => zeros_ (w := w3) gb c us H8.out HCL.out i hi
  clear hO hg hf hcell hgr z1_0 z1_1 z1_2 F HZ1 HA1 HG1 HF1 k29
  go_wp2_with fail
  go_loop [7, 8] (fun a i => ∃ j : Nat, j < 8 ∧ i = .int .i64 ((j + 1 : Nat) : Int) ∧ a = .int .i64 ((atS us j : Nat) : Int)) (fun _ i => 9 - (intOf i).toNat)
  case atStart => exact ⟨0, by omega, rfl, rfl⟩
  case round =>
    obtain ⟨j, hj, rfl, rfl⟩ := hrel
    by_cases hj7 : j < 7
    · have hle := atS_le us j
      have k1 := KZ.out (j + 1) (by omega)
      have k2 := KZ.out (atS us j) (by omega)
      have hat : atS us (j + 1) = if zr us (atS us j) 8 < zr us (j + 1) 8 then j + 1 else atS us j := rfl
      have HAT := Lib.hid hat
      have hjI : ((j + 1 : Nat) : Int) < 8 := by omega
      generalize atS us j = a at *
      generalize zr us a 8 = q at *
      generalize zr us (j + 1) 8 = p at *
      generalize hi : j + 1 = i at *
      clear hat
      by_cases hpq : q < p
      · have HE := Lib.hid (HAT.out.trans (if_pos hpq))
        clear HAT
        go_wp2_with (first
          | (go_at_call_of 51 i; refine k1.mono ?_; rintro e w5 ⟨rfl, rfl⟩)
          | (go_at_call_of 51 a; refine k2.mono ?_; rintro e w5 ⟨rfl, rfl⟩))
        go_round
        case rel => exact ⟨i, by omega, by go_num, by rw [HE.out]⟩
        case measure => simp [intOf]; omega
      · have HE := Lib.hid (HAT.out.trans (if_neg hpq))
        clear HAT
        go_wp2_with (first
          | (go_at_call_of 51 i; refine k1.mono ?_; rintro e w5 ⟨rfl, rfl⟩)
          | (go_at_call_of 51 a; refine k2.mono ?_; rintro e w5 ⟨rfl, rfl⟩))
        go_round
        case rel => exact ⟨i, by omega, by go_num, by rw [HE.out]⟩
        case measure => simp [intOf]; omega
    · obtain rfl : j = 7 := by omega
      have k2 := KZ.out (atM us) (by have := atS_le us 7; unfold atM; omega)
      have eat : atS us 7 = atM us := rfl
      have ema : zr us (atM us) 8 = manyM us := rfl
      rw [eat]
      rw [ema] at k2
      have hle := manyM_le H8.out
      have HG := Lib.hid (fun h => pT_gap (us := us) h)
      have HN := Lib.hid fun (i u : Nat) (hu : us[i]? = some u) hi hok => pT_next H8.out HBB.out hu hi hok
      have HL := Lib.hid (pT_len H8.out)
      have HZ := Lib.hid (pT_zero us)
      clear eat ema
      generalize atM us = a at *
      generalize manyM us = m at *
      go_wp2_with (go_at_call 51; refine k2.mono ?_; rintro e w5 ⟨rfl, rfl⟩)
      go_loop [3, 10] (fun s i => ∃ j : Nat, j ≤ 8 ∧ i = .int .i64 (j : Int) ∧ s = .string ⟨(pT us j).toArray⟩ ∧ Hid (¬ (1 < m ∧ a < j) ∨ a + m ≤ j)) (fun _ i => 9 - (intOf i).toNat)
      case atStart => exact ⟨0, by omega, rfl, by rw [HZ.out], Lib.hid (.inl (by omega))⟩
      case round =>
        obtain ⟨j, hj, rfl, rfl, hok⟩ := hrel
        by_cases hj8 : j < 8
        · have hjI : (j : Int) < 8 := by omega
          have hlen := HL.out j
          by_cases hA : 1 < m ∧ j = a
          · obtain ⟨hm, rfl⟩ := hA
            have HE := Lib.hid (HG.out hm)
            generalize pT us j = T at *
            clear HN hok
            go_wp2_with fail
            go_round
            case rel => exact ⟨j + m, by omega, by go_num, congrArg Value.string (by rw [HE.out, ← bA_cat]), Lib.hid (.inr (Nat.le_refl _))⟩
            case measure => simp [intOf]; omega
          · obtain ⟨x, hx⟩ : ∃ x, us[j]? = some x := ⟨us[j]'(by rw [H8.out]; exact hj8), List.getElem?_eq_getElem _⟩
            have hc := HCL.out _ _ hx
            have hx16 := HBB.out x (List.mem_of_getElem? hx)
            have hn := HN.out j x hx hA hok.out
            have kd := fun (w : World) => dgs_ (w := w) 16 x (by omega) (by omega) (by omega)
            rw [dgl_hx hx16] at kd
            have hxl : (hxT x).length ≤ 4 := (gt_hx hx16).le
            generalize pT us j = T at *
            generalize hxT x = D at *
            clear hx
            have hok2 : Hid (¬ (1 < m ∧ a < j + 1) ∨ a + m ≤ j + 1) := Lib.hid (by have := hok.out; omega)
            clear hok
            have hg : m ≤ 1 ∨ (1 < m ∧ ((j : Int) == (a : Int)) = false) := by
              by_cases h : 1 < m
              · exact .inr ⟨h, by simp; omega⟩
              · exact .inl (by omega)
            clear hA
            rcases hg with hm | ⟨hm, hne⟩
            all_goals
              rcases hn with ⟨h0, e⟩ | ⟨h0, ⟨ch, hch, hne58⟩, e⟩ | ⟨h0, hch, e⟩
              · subst h0
                have HE := Lib.hid e
                clear e
                go_wp2_with (go_at_call 26; refine (kd _).mono ?_; rintro e w5 ⟨rfl, rfl⟩)
                go_round
                case rel => exact ⟨1, by omega, rfl, congrArg Value.string ((bA_cat _ _).trans (congrArg (fun t : List UInt8 => (⟨t.toArray⟩ : ByteArray)) HE.out.symm)), hok2⟩
                case measure => simp [intOf]
              · have HE := Lib.hid e
                have hT1 := last_len hch
                have hq : ((((⟨T.toArray⟩ : ByteArray)[T.length - 1]'(by show T.length - 1 < T.toArray.size; simp; omega)).toNat : Int) != 58) = true := by
                  rw [last_byte hch]
                  have : ch.toNat ≠ 58 := fun e => hne58 (UInt8.toNat_inj.1 e)
                  rw [bne_iff_ne]; omega
                clear e hch
                go_wp2_with (go_at_call 26; refine (kd _).mono ?_; rintro e w5 ⟨rfl, rfl⟩)
                go_round
                case rel => exact ⟨j + 1, by omega, by go_num, congrArg Value.string (by rw [HE.out, show T ++ 58 :: D = (T ++ [58]) ++ D by simp, ← bA_cat, ← bA_cat]), hok2⟩
                case measure => simp [intOf]; omega
              · have HE := Lib.hid e
                have hT1 := last_len hch
                have hq : ((((⟨T.toArray⟩ : ByteArray)[T.length - 1]'(by show T.length - 1 < T.toArray.size; simp; omega)).toNat : Int) != 58) = false := by
                  rw [last_byte hch]
                  rfl
                clear e hch
                go_wp2_with (go_at_call 26; refine (kd _).mono ?_; rintro e w5 ⟨rfl, rfl⟩)
                go_round
                case rel => exact ⟨j + 1, by omega, by go_num, congrArg Value.string (by rw [HE.out, ← bA_cat]), hok2⟩
                case measure => simp [intOf]; omega
        · obtain rfl : j = 8 := by omega
          go_wp2_with fail
          go_ret
          exact ⟨rfl, HF3.out⟩
end
end Go.Proofs.YtcameghlkplgfaaGreatDoor
namespace Go.Proofs.YtcameghlkplgfaaGreatDoor
open Go.Proofs Go.Shelf Go.RowKit
section
variable {w : World}
theorem rprt_ (a : Ad) (ho : a.ok) : Calls Tryz.prog 25 #[adV a] w fun e w' => e = .returned (.string (prtA a)) ∧ Fr N0 w w' := by
  unfold prtA
  cases hv : validA a with
  | false => exact rprt_bad a hv
  | true =>
    rw [if_pos rfl]
    obtain ⟨s, h, l⟩ := a
    unfold txtA
    cases s with
    | true => exact rprt6 h l ho
    | false =>
      simp [validA] at hv
      obtain ⟨rfl, hv⟩ := hv
      exact rprt4 l hv
end
end Go.Proofs.YtcameghlkplgfaaGreatDoor
