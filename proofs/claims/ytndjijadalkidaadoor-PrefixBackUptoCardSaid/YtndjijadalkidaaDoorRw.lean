/- addr.row of any text. -/
import Derived.Test.YtndjijadalkidaaDoorFg
namespace Go.Proofs.YtndjijadalkidaaDoor
open Go.Proofs Go.Shelf Go.RowKit
def u16v (x : Nat) : Value := .int .u16 (x : Int)
def hexs : List (List UInt8) → Option (List Nat)
  | [] => some []
  | t :: r => match num16 t, hexs r with
    | some u, some us => some (u :: us)
    | _, _ => none
theorem hexs_snoc : ∀ (l : List (List UInt8)) (t : List UInt8), hexs (l ++ [t]) = match hexs l, num16 t with
    | some us, some u => some (us ++ [u])
    | _, _ => none
  | [], t => by
    simp only [List.nil_append, hexs]
    cases num16 t <;> rfl
  | a :: l, t => by
    simp only [List.cons_append, hexs]
    rw [hexs_snoc l t]
    cases num16 a <;> cases hexs l <;> cases num16 t <;> rfl
theorem hexs_len : ∀ (l : List (List UInt8)) (us : List Nat), hexs l = some us → us.length = l.length
  | [], us, h => by cases h; rfl
  | a :: l, us, h => by
    simp only [hexs] at h
    cases h1 : num16 a with
    | none => rw [h1] at h; cases h
    | some u =>
      cases h2 : hexs l with
      | none => rw [h1, h2] at h; cases h
      | some vs =>
        rw [h1, h2] at h
        cases h
        simp [hexs_len l vs h2]
theorem hexs_none : ∀ (l : List (List UInt8)) (j : Nat) (t : List UInt8), l[j]? = some t → num16 t = none → hexs l = none
  | [], j, t, h, _ => by simp at h
  | a :: l, 0, t, h, hn => by
    simp at h
    subst h
    simp only [hexs, hn]
  | a :: l, j + 1, t, h, hn => by
    simp at h
    simp only [hexs, hexs_none l j t h hn]
    cases num16 a <;> rfl
theorem hexG_lt : ∀ (l : List UInt8) (acc v : Nat), hexG acc l = some v → v < (acc + 1) * 16 ^ l.length
  | [], acc, v, h => by
    simp only [hexG, Option.some.injEq] at h
    simp
    omega
  | c :: r, acc, v, h => by
    simp only [hexG] at h
    cases hd : hexD c.toNat with
    | none => rw [hd] at h; cases h
    | some d =>
      rw [hd] at h
      have h1 := hexG_lt r _ v h
      have h0 := hexD_lt hd
      have h2 : acc * 16 + d + 1 ≤ (acc + 1) * 16 := by omega
      have h3 := Nat.mul_le_mul_right (16 ^ r.length) h2
      rw [List.length_cons, Nat.pow_succ]
      have e : (acc + 1) * (16 ^ r.length * 16) = (acc + 1) * 16 * 16 ^ r.length := by rw [Nat.mul_comm (16 ^ r.length), Nat.mul_assoc]
      omega
theorem num16_lt {l : List UInt8} {v : Nat} (h : num16 l = some v) : v < 65536 := by
  unfold num16 at h
  split at h
  · cases h
  · have h1 := hexG_lt _ _ _ h
    have h2 : 16 ^ l.length ≤ 16 ^ 4 := Nat.pow_le_pow_right (by omega) (by omega)
    omega
theorem hexs_lt : ∀ (l : List (List UInt8)) (us : List Nat), hexs l = some us → ∀ u ∈ us, u < 65536
  | [], us, h, u, hu => by cases h; cases hu
  | a :: l, us, h, u, hu => by
    simp only [hexs] at h
    cases h1 : num16 a with
    | none => rw [h1] at h; cases h
    | some v =>
      cases h2 : hexs l with
      | none => rw [h1, h2] at h; cases h
      | some vs =>
        rw [h1, h2] at h
        cases h
        rcases List.mem_cons.1 hu with rfl | hu
        · exact num16_lt h1
        · exact hexs_lt l vs h2 u hu
/-- A slice of groups of the call's own, made since w. -/
def Bu (w wr : World) (v : Value) (l : List Nat) : Prop :=
  ∃ A c, v = .slice A l.length c ∧ Own wr 66 1 A l.length c (l.map u16v) ∧ (∀ g, A = some ⟨g, 0, none⟩ → w.heap.size ≤ g) ∧ Fr N0 w wr
theorem Bu.nil_ (w : World) : Bu w w (.slice none 0 0) [] := ⟨none, 0, rfl, Own.nil_ _ _ _, nofun, Fr.refl _ _⟩
theorem Bu.nilF {w wr : World} (h : Fr N0 w wr) : Bu w wr (.slice none 0 0) [] := ⟨none, 0, rfl, Own.nil_ _ _ _, nofun, h⟩
theorem info16 : (Tryd.prog.info? 66).map (fun i => (i.zero, i.size, i.bytes)) = some (some (.int .u16 0), 1, 2) := by kernel_rfl
theorem Bu.step {w wr w' : World} {A : Option Addr} {g' c' n x : Nat} {l : List Nat} {X : Int} (G1 : ∀ g, A = some ⟨g, 0, none⟩ → w.heap.size ≤ g) (F1 : Fr N0 w wr) (hn : l.length = n)
    (hO' : Own w' 66 1 (some ⟨g', 0, none⟩) (n + 1) c' (l.map u16v ++ [.int .u16 X])) (hF' : Fr (fun i => A = some ⟨i, 0, none⟩) wr w') (hA' : A = some ⟨g', 0, none⟩ ∨ wr.heap.size ≤ g') (hX : X = (x : Int)) :
    Bu w w' (.slice (some ⟨g', 0, none⟩) (n + 1) c') (l ++ [x]) := by
  subst hX
  refine ⟨some ⟨g', 0, none⟩, c', by rw [List.length_append, hn]; rfl, by rw [List.length_append, hn, List.map_append]; exact hO', ?_, F1.step hF' fun i hi => .inr (G1 i hi)⟩
  intro g e
  rcases hA' with h | h
  · exact G1 g (h.trans e)
  · injection e with e
    injection e with e
    rw [← e]
    exact Nat.le_trans F1.size h
theorem Bu.up {w w2 wr : World} {v : Value} {l : List Nat} (k : Bu w2 wr v l) (hF : Fr N0 w w2) : Bu w wr v l := by
  obtain ⟨A, c, h1, h2, h3, h4⟩ := k
  exact ⟨A, c, h1, h2, fun g e => Nat.le_trans hF.size (h3 g e), hF.trans h4⟩
theorem Bu.mk' {w wr : World} {A : Option Addr} {c n : Nat} {L l : List Nat} (hn : L.length = n) (hl : L = l) (hO : Own wr 66 1 A n c (L.map u16v)) (hg : ∀ g, A = some ⟨g, 0, none⟩ → w.heap.size ≤ g) (hF : Fr N0 w wr) : Bu w wr (.slice A n c) l := by
  subst hl hn
  exact ⟨A, c, rfl, hO, hg, hF⟩
section
variable {w : World}
set_option maxHeartbeats 6400000 in
set_option maxRecDepth 100000 in
theorem row_ (s : ByteArray) (hs0 : s.size ≠ 0) (ts : List ByteArray) (m : Int) (hm : w.cell? ⟨0, 0, none⟩ = some (.int .i64 m)) (hsy : Sy w) (hn63 : ts.length ≤ 70368744177663)
    (hsp : ∀ W : World, W.cell? ⟨0, 0, none⟩ = some (.int .i64 m) → Calls Tryd.prog 65 #[.string s, .string ⟨#[58]⟩] W fun e w' => e = .returned (.slice (some ⟨W.heap.size, 0, none⟩) ts.length ts.length) ∧ w' = W.alloc (.cells (ts.map Value.string).toArray 9)) :
    Calls Tryd.prog 67 #[.string s] w fun e w' => ∃ v, e = .returned (.tuple #[v, .bool (hexs (ts.map (·.data.toList))).isSome]) ∧ Bu w w' v ((hexs (ts.map (·.data.toList))).getD []) := by
  obtain ⟨i0, hi, hz0, hz1, hz2⟩ := info_parts info16
  have hemp := nempty_of hs0
  obtain ⟨n, hn⟩ : ∃ n, n = ts.length := ⟨_, rfl⟩
  rw [← hn] at hsp hn63
  have HN := Lib.hid hn
  clear hn hs0
  go_enter Tryd.func67, Tryd.ntmps67
  go_wp2_with (go_at_call 65; refine (hsp _ hm).mono ?_; rintro e w2 ⟨rfl, rfl⟩)
  have HF2 := Lib.hid (Fr.alloc (Fr.refl N0 w) (.cells (ts.map Value.string).toArray 9))
  have HB4 := Lib.hid (Blk.new w 9 (ts.map Value.string).toArray)
  have HSY := Lib.hid hsy
  have HW := Lib.hid (Nat.le_refl w.heap.size)
  obtain ⟨w2, hw2⟩ : ∃ w2, w2 = w.alloc (.cells (ts.map Value.string).toArray 9) := ⟨_, rfl⟩
  rw [← hw2] at HF2 HB4 ⊢
  obtain ⟨g4, hg4⟩ : ∃ g, g = w.heap.size := ⟨_, rfl⟩
  rw [← hg4] at HB4 ⊢
  have HLT := Lib.hid HB4.out.lt
  clear hg4 hw2 hsp hm hsy
  go_loopw [4, 14] (fun v i wr => ∃ (j : Nat) (us : List Nat), j ≤ n ∧ i = .int .i64 (j : Int) ∧ hexs ((ts.take j).map (·.data.toList)) = some us ∧ Bu w2 wr v us) (fun _ i _ => n + 1 - (RowKit.intOf i).toNat)
  case atStart => exact ⟨0, [], by omega, rfl, rfl, Bu.nil_ _⟩
  case round =>
    obtain ⟨j, us, hj, rfl, hus, A, c, rfl, hO, hg, hF⟩ := hrel
    have hul := hexs_len _ _ hus
    have HUS := Lib.hid hus
    have O1 := Lib.hid hO
    have G1 := Lib.hid hg
    have F1 := Lib.hid hF
    have SW := Lib.hid (HSY.out.fr (HF2.out.trans hF))
    have BG := Lib.hid (HB4.out.fr hF id)
    obtain ⟨N, hN⟩ : ∃ N, N = us.length := ⟨_, rfl⟩
    rw [← hN] at O1 ⊢
    have HNN := Lib.hid hN.symm
    have hN2 : N ≤ 70368744177663 := by rw [hN, hul, List.length_map, List.length_take]; omega
    clear hO hg hF hus hul hN
    by_cases hjn : j < n
    · obtain ⟨t, ht⟩ : ∃ t, ts[j]? = some t := ⟨_, List.getElem?_eq_getElem (by rw [← HN.out]; exact hjn)⟩
      have x0 := BG.out.cell j
      rw [List.getElem?_toArray, List.getElem?_map, ht] at x0
      replace x0 : wr.cell? ⟨g4, j, none⟩ = some (.string t) := x0
      have k66 := numb16 (w := wr) t SW.out
      have hsnoc : hexs ((ts.take (j + 1)).map (·.data.toList)) = match num16 t.data.toList with | some u => some (us ++ [u]) | none => none := by
        rw [List.take_add_one, ht, List.map_append, Option.toList_some, List.map_cons, List.map_nil, hexs_snoc, HUS.out]
        cases num16 t.data.toList <;> rfl
      have hbad : num16 t.data.toList = none → hexs (ts.map (·.data.toList)) = none := fun hn =>
        hexs_none _ j t.data.toList (by rw [List.getElem?_map, ht]; rfl) hn
      have HSN := Lib.hid hsnoc
      have HBD := Lib.hid hbad
      clear hsnoc hbad ht
      cases hnum : num16 t.data.toList with
      | none =>
        rw [hnum] at k66
        have HX := Lib.hid (HBD.out hnum)
        clear hnum HBD HSN
        simp only [numT] at k66
        go_wp2_with (go_at_call 66; refine k66.mono ?_; rintro e w6 ⟨rfl, hf6⟩)
        go_ret2
        exact ⟨_, by rw [HX.out]; rfl, by rw [HX.out]; exact Bu.nilF (HF2.out.trans (F1.out.trans hf6))⟩
      | some v =>
        rw [hnum] at k66
        have hv := num16_lt hnum
        have HX := Lib.hid (show hexs ((ts.take (j + 1)).map (·.data.toList)) = some (us ++ [v]) by rw [HSN.out, hnum])
        clear hnum HBD HSN
        simp only [numT] at k66
        go_wp2_with (first
          | (go_at_call 66; refine k66.mono ?_; rintro e w6 ⟨rfl, hf6⟩; have O6 := Lib.hid (O1.out.fr hf6 (fun _ _ h => h)); have F6 := Lib.hid (F1.out.trans hf6))
          | (at_builtin; refine wpList_append1 w6 rfl (.tmp 25) (.tmp 28) 73 rfl 66 i0 (.int .u16 0) 1 2 Tryd.underlying73 hi hz0 hz1 hz2 rfl (by omega) A N c _ rfl O6.out [.int .u16 (v : Int)] rfl rfl ?_ ?_ ?_ ?_))
        · simp [Value.oneCell']
        · omega
        · omega
        · intro g' c' w' hO' hF' hA'
          have HB := Lib.hid (Bu.step G1.out F6.out HNN.out hO' hF' hA' (show _ = ((v : Nat) : Int) from rfl))
          clear hO' hF' hA'
          go_wp2_with fail
          go_roundw
          case rel => exact ⟨j + 1, us ++ [v], by omega, by go_num, HX.out, HB.out⟩
          case measure => simp [RowKit.intOf]; omega
    · obtain rfl : j = n := by omega
      have hfull : hexs (ts.map (·.data.toList)) = some us := by
        have := HUS.out
        rwa [List.take_of_length_le (by rw [← HN.out]; exact Nat.le_refl _)] at this
      have HX := Lib.hid hfull
      clear hfull
      go_wp2_with fail
      go_ret2
      refine ⟨_, by rw [HX.out]; rfl, ?_⟩
      rw [HX.out]
      exact (Bu.mk' HNN.out rfl O1.out G1.out F1.out).up HF2.out
theorem row_nil : Calls Tryd.prog 67 #[.string ⟨#[]⟩] w fun e w' => ∃ v, e = .returned (.tuple #[v, .bool true]) ∧ Bu w w' v [] := by
  go_enter Tryd.func67, Tryd.ntmps67
  go_wp2_with fail
  go_ret2
  exact ⟨_, rfl, Bu.nil_ _⟩
end
end Go.Proofs.YtndjijadalkidaaDoor
