/- AddrOf: what it answers. -/
import Derived.Test.YtejddfgmfdpnfaaDoorAw3
import Derived.Test.YtejddfgmfdpnfaaDoorO6
import Derived.Test.YtejddfgmfdpnfaaDoorApm
namespace Go.Proofs.YtejddfgmfdpnfaaDoor
open Go.Proofs Go.Shelf Go.RowKit
theorem Rd.u8_ {P : Program} {w : World} {t : TypeId} {cs : List Value} (ht : P.underlying t = some (.int .u8)) (h : Rd P w t cs) : ∃ n : Nat, cs = [.int .u8 (n : Int)] ∧ n < 256 := by
  obtain ⟨n, hc, hw⟩ := h.int_ ht
  have h1 : IntKind.u8.min = 0 := rfl
  have h2 : IntKind.u8.max = 255 := rfl
  simp only [Lit.wf, Bool.and_eq_true, decide_eq_true_eq] at hw
  exact ⟨n.toNat, by rw [hc, Int.toNat_of_nonneg (by omega)], by omega⟩
/-- A slice of bytes as its list. -/
theorem bytes_of {W : World} {A : Option Addr} {len cap : Nat} (h : Rd Tryd.prog W 30 [.slice A len cap]) :
    ∃ bs : List Nat, bs.length = len ∧ (∀ u ∈ bs, u < 256) ∧ (A = none → len = 0 ∧ cap = 0) ∧ (0 < len → ∃ g o, A = some ⟨g, o, none⟩ ∧ ∀ (i x : Nat), bs[i]? = some x → W.cell? ⟨g, o + i, none⟩ = some (.int .u8 (x : Int))) := by
  have hc : Tryd.prog.cellsOf 5 = 1 := by kernel_rfl
  obtain ⟨A', l', c', e, _, _, hn, hs⟩ := Rd.slice_ Tryd.underlying30 (by rw [hc]; omega) h
  cases e
  by_cases h0 : len = 0
  · exact ⟨[], by simp [h0], nofun, hn, fun h => by omega⟩
  · obtain ⟨g, o, rfl, _, hcell⟩ := hs (by omega)
    have key : ∀ k, k ≤ len → ∃ bs : List Nat, bs.length = k ∧ (∀ u ∈ bs, u < 256) ∧ ∀ (i x : Nat), bs[i]? = some x → W.cell? ⟨g, o + i, none⟩ = some (.int .u8 (x : Int)) := by
      intro k
      induction k with
      | zero => exact fun _ => ⟨[], rfl, nofun, fun i x h => by simp at h⟩
      | succ k ih =>
        intro hk
        obtain ⟨bs, h1, h2, h3⟩ := ih (by omega)
        obtain ⟨cs', _, hat, hrd⟩ := hcell k (by omega)
        obtain ⟨n, rfl, hn256⟩ := Rd.u8_ Tryd.underlying5 hrd
        have hx := hat 0 _ rfl
        rw [hc] at hx
        refine ⟨bs ++ [n], by simp [h1], ?_, ?_⟩
        · intro u hu
          rcases List.mem_append.1 hu with hu | hu
          · exact h2 u hu
          · rw [List.mem_singleton.1 hu]; exact hn256
        · intro i x hi
          by_cases e : i < bs.length
          · rw [List.getElem?_append_left e] at hi
            exact h3 i x hi
          · have hlt := (List.getElem?_eq_some_iff.1 hi).1
            have ei : i = k := by simp at hlt; omega
            subst ei
            rw [List.getElem?_append_right (by omega), h1, Nat.sub_self] at hi
            cases hi
            have e2 : o + (i * 1 + 0) = o + i := by omega
            rw [e2] at hx
            exact hx
    obtain ⟨bs, h1, h2, h3⟩ := key len (Nat.le_refl _)
    exact ⟨bs, h1, h2, hn, fun _ => ⟨g, o, rfl, h3⟩⟩
theorem own_cells {w : World} {A : Option Addr} {n c : Nat} {bs : List Nat} (h : Own w 5 1 A n c (bs.map u8v)) (hn : 0 < n) : ∃ g, A = some ⟨g, 0, none⟩ ∧ ∀ (i x : Nat), bs[i]? = some x → w.cell? ⟨g, i, none⟩ = some (.int .u8 (x : Int)) := by
  rcases h.2 with ⟨_, h0, _⟩ | ⟨g, cur, e, hg, _, _, _, ht⟩
  · omega
  · refine ⟨g, e, fun i x hi => ?_⟩
    have hb : Blk w g 5 cur := hg
    have h1 : (cur.toList.take (n * 1))[i]? = some (u8v x) := by rw [ht, List.getElem?_map, hi]; rfl
    rw [List.getElem?_take] at h1
    split at h1
    · rw [Array.getElem?_toList] at h1
      exact (hb.cell i).trans h1
    · cases h1
section
variable {w : World}
theorem of_any (A : Option Addr) (n c : Nat) (bs : List Nat) (hn : bs.length = n) (hlt : ∀ u ∈ bs, u < 256) (hB : 0 < n → ∃ g, A = some ⟨g, 0, none⟩ ∧ ∀ (i x : Nat), bs[i]? = some x → w.cell? ⟨g, i, none⟩ = some (.int .u8 (x : Int))) :
    Calls Tryd.prog 24 #[.slice A n c] w fun e w' => e = .returned (.tuple #[adV (ofB bs).1, .int .i64 (ofB bs).2]) ∧ Fr N0 w w' := by
  unfold ofB
  by_cases h4 : n = 4
  · rw [if_pos (hn.trans h4)]
    obtain ⟨g, rfl, hc⟩ := hB (by omega)
    subst h4
    exact of4 g c bs hn hc hlt
  · rw [if_neg (by omega)]
    by_cases h16 : n = 16
    · rw [if_pos (hn.trans h16)]
      obtain ⟨g, rfl, hc⟩ := hB (by omega)
      subst h16
      exact of16 g c bs hn hc hlt
    · rw [if_neg (by omega)]
      exact of_bad A n c h4 h16
theorem rof_any (A : Option Addr) (n c : Nat) (bs : List Nat) (hn : bs.length = n) (hlt : ∀ u ∈ bs, u < 256) (hB : 0 < n → ∃ g o, A = some ⟨g, o, none⟩ ∧ ∀ (i x : Nat), bs[i]? = some x → w.cell? ⟨g, o + i, none⟩ = some (.int .u8 (x : Int))) :
    Calls Tryd.prog 25 #[.slice A n c] w fun e w' => e = .returned (.tuple #[adV (ofB bs).1, .int .i64 (ofB bs).2]) ∧ Fr N0 w w' := by
  unfold ofB
  by_cases h4 : n = 4
  · rw [if_pos (hn.trans h4)]
    obtain ⟨g, o, rfl, hc⟩ := hB (by omega)
    subst h4
    exact rof4 g o c bs hn hc hlt
  · rw [if_neg (by omega)]
    by_cases h16 : n = 16
    · rw [if_pos (hn.trans h16)]
      obtain ⟨g, o, rfl, hc⟩ := hB (by omega)
      subst h16
      exact rof16 g o c bs hn hc hlt
    · rw [if_neg (by omega)]
      exact rof_bad A n c h4 h16
end
set_option maxHeartbeats 6400000 in
set_option maxRecDepth 100000 in
theorem aof_key (w : World) (A : Option Addr) (n c : Nat) (bs : List Nat) (hn : bs.length = n) (hlt : ∀ u ∈ bs, u < 256) (hnone : A = none → n = 0 ∧ c = 0) (hn47 : n ≤ 140737488351232)
    (hB : 0 < n → ∃ g o, A = some ⟨g, o, none⟩ ∧ ∀ (i x : Nat), bs[i]? = some x → w.cell? ⟨g, o + i, none⟩ = some (.int .u8 (x : Int))) (m : Int) (hm : Mx m w) (hd : D4 w) (hsy : Sy w) :
    Calls Tryd.prog 7 #[.slice A n c] w fun e w' => e = .returned (.bool true) ∧ Fr N0 w w' := by
  obtain ⟨r, hr⟩ : ∃ r, r = ofB bs := ⟨_, rfl⟩
  obtain ⟨⟨s, h, l⟩, k⟩ := r
  have hb : ∀ W : World, Fr N0 w W → (0 < n → ∃ g o, A = some ⟨g, o, none⟩ ∧ ∀ (i x : Nat), bs[i]? = some x → W.cell? ⟨g, o + i, none⟩ = some (.int .u8 (x : Int))) := fun W hF h0 => by
    obtain ⟨g, o, e, hc⟩ := hB h0
    exact ⟨g, o, e, fun i x hi => (hF.cell (p := ⟨g, o + i, none⟩) (World.block_lt_of_cell? _ _ (hc i x hi)) id).trans (hc i x hi)⟩
  have HK : Hid (∀ (A' : Option Addr) (c' : Nat) (w3 : World), Fr N0 w w3 → Own w3 5 1 A' n c' (bs.map u8v) → ∀ W : World, Fr N0 w3 W →
      (Calls Tryd.prog 24 #[.slice A' n c'] W fun e w' => e = .returned (.tuple #[.agg #[.bool s, .int .u64 (h : Int), .int .u64 (l : Int)], .int .i64 k]) ∧ Fr N0 W w') ∧
      (Calls Tryd.prog 25 #[.slice A n c] W fun e w' => e = .returned (.tuple #[.agg #[.bool s, .int .u64 (h : Int), .int .u64 (l : Int)], .int .i64 k]) ∧ Fr N0 W w') ∧
      (Calls Tryd.prog 14 #[.slice A' n c', .slice A n c] W fun e w' => e = .returned (.bool true) ∧ Fr N0 W w')) := Lib.hid fun A' c' w3 hF3 hO W hW => by
    have ho : 0 < n → ∃ g, A' = some ⟨g, 0, none⟩ ∧ ∀ (i x : Nat), bs[i]? = some x → W.cell? ⟨g, i, none⟩ = some (.int .u8 (x : Int)) := fun h0 => by
      obtain ⟨g, e, hc⟩ := own_cells hO h0
      exact ⟨g, e, fun i x hi => (hW.cell (p := ⟨g, i, none⟩) (World.block_lt_of_cell? _ _ (hc i x hi)) id).trans (hc i x hi)⟩
    have k1 := of_any (w := W) A' n c' bs hn hlt ho
    have k2 := rof_any (w := W) A n c bs hn hlt (hb W (hF3.trans hW))
    rw [← hr] at k1 k2
    refine ⟨k1, k2, ?_⟩
    by_cases h0 : n = 0
    · subst h0
      exact same0 A' A c' c
    · obtain ⟨g, rfl, hc⟩ := ho (by omega)
      obtain ⟨g', o', rfl, hc'⟩ := hb W (hF3.trans hW) (by omega)
      exact samen g 0 n c' g' o' c bs hn (by omega) (fun i x hi => by rw [Nat.zero_add]; exact hc i x hi) hc'
  have HBB := Lib.hid hb
  have ka := awake3 (w := w) m hm hsy hd
  obtain ⟨i0, hi, hz0, hz1, hz2⟩ := info_parts info5
  have eA : ∀ (w : World), (binOp .eql 25 (.agg #[.bool s, .int .u64 (h : Int), .int .u64 (l : Int)]) (.agg #[.bool s, .int .u64 (h : Int), .int .u64 (l : Int)])).run Tryd.prog w = .ok (.bool true) w := fun w => by
    have := eql_ad ⟨s, h, l⟩ ⟨s, h, l⟩ w
    rw [decide_eq_true rfl] at this
    exact this
  have qA := fun X Y W => guard_ad .eql X Y ⟨s, h, l⟩ ⟨s, h, l⟩ W
  unfold adV at qA
  have hk2 : (k == k) = true := by simp
  have HLEN := Lib.hid hn
  clear hb hB hm hd hsy hr hlt hn
  go_enter Tryd.func7, Tryd.ntmps7
  go_wp2_with fail
  refine ka.mono ?_
  rintro e w2 ⟨rfl, hf2⟩
  have HF2 := Lib.hid hf2
  clear ka hf2
  cases A with
  | none =>
    obtain ⟨rfl, rfl⟩ := hnone rfl
    go_wp2_with (at_builtin; refine wpList_append0 w2 rfl (.tmp 10) (.tmp 11) 30 rfl 5 i0 Tryd.underlying30 hi none 0 0 [] rfl (Own.nil_ _ _ 1) rfl ?_)
    have HF3 := HF2
    have KK := Lib.hid (HK.out none 0 w2 HF2.out (by rw [List.length_eq_zero_iff.1 HLEN.out]; exact Own.nil_ _ _ _))
    clear HK HBB
    refine (KK.out _ (Fr.refl _ _)).1.mono ?_
    rintro e w4 ⟨rfl, hf4⟩
    go_wp2_with fail
    have F5 := Lib.hid (hf4.alloc (.cells #[.bool s, .int .u64 (h : Int), .int .u64 (l : Int)] 25))
    have B5 := Lib.hid (Blk.new w4 25 #[.bool s, .int .u64 (h : Int), .int .u64 (l : Int)])
    clear hf4
    generalize w4.alloc _ = w5 at *
    generalize w4.heap.size = g5 at *
    refine (KK.out _ F5.out).2.1.mono ?_
    rintro e w6 ⟨rfl, hf6⟩
    have F7 := Lib.hid ((F5.out.trans hf6).alloc (.cells #[.bool s, .int .u64 (h : Int), .int .u64 (l : Int)] 25))
    obtain ⟨a0, a1, a2⟩ := ((B5.out.fr hf6 id).alloc (.cells #[.bool s, .int .u64 (h : Int), .int .u64 (l : Int)] 25)).c3
    obtain ⟨b0, b1, b2⟩ := (Blk.new w6 25 #[.bool s, .int .u64 (h : Int), .int .u64 (l : Int)]).c3
    clear hf6
    go_wp2_with (first
      | (go_at_call 14; refine (KK.out _ F7.out).2.2.mono ?_; rintro e w8 ⟨rfl, hf8⟩))
    go_ret
    exact ⟨rfl, (HF3.out.trans F7.out).trans hf8⟩
  | some ad =>
    clear hnone
    have HNN : Hid (∀ j u, (bs.map u8v)[j]? = some u → w2.cell? (ad.add j) = some u) := Lib.hid fun j u hj => by
      rw [List.getElem?_map] at hj
      cases hx : bs[j]? with
      | none => rw [hx] at hj; cases hj
      | some x =>
        rw [hx] at hj
        cases hj
        have h0 : 0 < n := by have := (List.getElem?_eq_some_iff.1 hx).1; rw [HLEN.out] at this; omega
        obtain ⟨g, o, e, hc⟩ := HBB.out w2 HF2.out h0
        cases e
        rw [Lib.add_plain]
        exact hc j x hx
    go_wp2_with (at_builtin; refine wpList_appendM w2 rfl (.tmp 10) (.tmp 11) 30 rfl 5 i0 _ 1 1 Tryd.underlying30 hi hz0 hz1 hz2 rfl (by omega) none 0 0 [] rfl (Own.nil_ _ _ _) ad n c (bs.map u8v) rfl (by simp [HLEN.out]) HNN.out ?_ ?_ ?_ ?_)
    · intro u hu
      obtain ⟨x, _, rfl⟩ := List.mem_map.1 hu
      rfl
    · omega
    · omega
    intro A1 c1 w3 hO1 hF1 hA1
    have HF3 := Lib.hid (HF2.out.trans (hF1.mono fun _ _ h => by cases h))
    have KK := Lib.hid (HK.out A1 c1 w3 HF3.out (by simpa using hO1))
    clear HK HBB HNN hO1 hF1 hA1
    go_wp2_with fail
    refine (KK.out _ (Fr.refl _ _)).1.mono ?_
    rintro e w4 ⟨rfl, hf4⟩
    go_wp2_with fail
    have F5 := Lib.hid (hf4.alloc (.cells #[.bool s, .int .u64 (h : Int), .int .u64 (l : Int)] 25))
    have B5 := Lib.hid (Blk.new w4 25 #[.bool s, .int .u64 (h : Int), .int .u64 (l : Int)])
    clear hf4
    generalize w4.alloc _ = w5 at *
    generalize w4.heap.size = g5 at *
    refine (KK.out _ F5.out).2.1.mono ?_
    rintro e w6 ⟨rfl, hf6⟩
    have F7 := Lib.hid ((F5.out.trans hf6).alloc (.cells #[.bool s, .int .u64 (h : Int), .int .u64 (l : Int)] 25))
    obtain ⟨a0, a1, a2⟩ := ((B5.out.fr hf6 id).alloc (.cells #[.bool s, .int .u64 (h : Int), .int .u64 (l : Int)] 25)).c3
    obtain ⟨b0, b1, b2⟩ := (Blk.new w6 25 #[.bool s, .int .u64 (h : Int), .int .u64 (l : Int)]).c3
    clear hf6
    go_wp2_with (first
      | (go_at_call 14; refine (KK.out _ F7.out).2.2.mono ?_; rintro e w8 ⟨rfl, hf8⟩))
    go_ret
    exact ⟨rfl, (HF3.out.trans F7.out).trans hf8⟩
theorem aof_walk (W : World) (hS : W.ShapedOpen Tryd.prog) (ht : T10 W ∧ D4 W ∧ Sy W) (A : Option Addr) (n c : Nat) (ra : Rd Tryd.prog W 30 [.slice A n c]) (hs : n * Tryd.prog.bytesOf 5 ≤ 140737488351232) :
    Calls Tryd.prog 7 #[.slice A n c] W fun e w' => e = .returned (.bool true) ∧ Below W.heap.size W w' := by
  obtain ⟨bs, h1, h2, h3, h4⟩ := bytes_of ra
  obtain ⟨m, hm⟩ := mx_of hS
  have e1 : Tryd.prog.bytesOf 5 = 1 := by kernel_rfl
  rw [e1] at hs
  exact (aof_key W A n c bs h1 h2 h3 (by omega) h4 m hm ht.2.1 ht.2.2).mono fun e w' ⟨he, hf⟩ => ⟨he, hf.below (Nat.le_refl _) fun _ _ h => h.elim⟩
end Go.Proofs.YtejddfgmfdpnfaaDoor
