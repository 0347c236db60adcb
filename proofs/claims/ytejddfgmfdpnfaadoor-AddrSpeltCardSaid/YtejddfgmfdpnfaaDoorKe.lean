/- AddrOf: what it answers. AddrPrints: what it answers. -/
import Derived.Test.YtejddfgmfdpnfaaDoorKd
import Derived.Test.YtejddfgmfdpnfaaDoorKb
import Derived.Test.YtejddfgmfdpnfaaDoorKp
namespace Go.Proofs.YtejddfgmfdpnfaaDoor
open Go.Proofs Go.Shelf Go.RowKit
theorem Rd.u8_ {P : Program} {w : World} {t : TypeId} {cs : List Value} (ht : P.underlying t = some (.int .u8)) (h : Rd P w t cs) : ∃ n : Nat, cs = [.int .u8 (n : Int)] ∧ n < 256 := by
  obtain ⟨n, hc, hw⟩ := h.int_ ht
  have h1 : IntKind.u8.min = 0 := rfl
  have h2 : IntKind.u8.max = 255 := rfl
  simp only [Lit.wf, Bool.and_eq_true, decide_eq_true_eq] at hw
  exact ⟨n.toNat, by rw [hc, Int.toNat_of_nonneg (by omega)], by omega⟩
/-- A slice of bytes as its list. -/
theorem bytes_of {W : World} {A : Option Addr} {len cap : Nat} (h : Rd Tryd.prog W 30 [.slice A len cap]) :
    ∃ bs : List Nat, bs.length = len ∧ (∀ u ∈ bs, u < 256) ∧ (A = none → len = 0 ∧ cap = 0) ∧ (0 < len → ∃ g o, A = some ⟨g, o, none⟩ ∧ ∀ (i x : Nat), bs[i]? = some x → W.cell? ⟨g, o + i, none⟩ = some (.int .u8 (x : Int))) := by
  have hc : Tryd.prog.cellsOf 5 = 1 := by kernel_rfl
  obtain ⟨A', l', c', e, _, _, hn, hs⟩ := Rd.slice_ Tryd.underlying30 (by rw [hc]; omega) h
  cases e
  by_cases h0 : len = 0
  · exact ⟨[], by simp [h0], nofun, hn, fun h => by omega⟩
  · obtain ⟨g, o, rfl, _, hcell⟩ := hs (by omega)
    have key : ∀ k, k ≤ len → ∃ bs : List Nat, bs.length = k ∧ (∀ u ∈ bs, u < 256) ∧ ∀ (i x : Nat), bs[i]? = some x → W.cell? ⟨g, o + i, none⟩ = some (.int .u8 (x : Int)) := by
      intro k
      induction k with
      | zero => exact fun _ => ⟨[], rfl, nofun, fun i x h => by simp at h⟩
      | succ k ih =>
        intro hk
        obtain ⟨bs, h1, h2, h3⟩ := ih (by omega)
        obtain ⟨cs', _, hat, hrd⟩ := hcell k (by omega)
        obtain ⟨n, rfl, hn256⟩ := Rd.u8_ Tryd.underlying5 hrd
        have hx := hat 0 _ rfl
        rw [hc] at hx
        refine ⟨bs ++ [n], by simp [h1], ?_, ?_⟩
        · intro u hu
          rcases List.mem_append.1 hu with hu | hu
          · exact h2 u hu
          · rw [List.mem_singleton.1 hu]; exact hn256
        · intro i x hi
          by_cases e : i < bs.length
          · rw [List.getElem?_append_left e] at hi
            exact h3 i x hi
          · have hlt := (List.getElem?_eq_some_iff.1 hi).1
            have ei : i = k := by simp at hlt; omega
            subst ei
            rw [List.getElem?_append_right (by omega), h1, Nat.sub_self] at hi
            cases hi
            have e2 : o + (i * 1 + 0) = o + i := by omega
            rw [e2] at hx
            exact hx
    obtain ⟨bs, h1, h2, h3⟩ := key len (Nat.le_refl _)
    exact ⟨bs, h1, h2, hn, fun _ => ⟨g, o, rfl, h3⟩⟩
theorem own_cells {w : World} {A : Option Addr} {n c : Nat} {bs : List Nat} (h : Own w 5 1 A n c (bs.map u8v)) (hn : 0 < n) : ∃ g, A = some ⟨g, 0, none⟩ ∧ ∀ (i x : Nat), bs[i]? = some x → w.cell? ⟨g, i, none⟩ = some (.int .u8 (x : Int)) := by
  rcases h.2 with ⟨_, h0, _⟩ | ⟨g, cur, e, hg, _, _, _, ht⟩
  · omega
  · refine ⟨g, e, fun i x hi => ?_⟩
    have hb : Blk w g 5 cur := hg
    have h1 : (cur.toList.take (n * 1))[i]? = some (u8v x) := by rw [ht, List.getElem?_map, hi]; rfl
    rw [List.getElem?_take] at h1
    split at h1
    · rw [Array.getElem?_toList] at h1
      exact (hb.cell i).trans h1
    · cases h1
section
variable {w : World}
theorem of_any (A : Option Addr) (n c : Nat) (bs : List Nat) (hn : bs.length = n) (hlt : ∀ u ∈ bs, u < 256) (hB : 0 < n → ∃ g, A = some ⟨g, 0, none⟩ ∧ ∀ (i x : Nat), bs[i]? = some x → w.cell? ⟨g, i, none⟩ = some (.int .u8 (x : Int))) :
    Calls Tryd.prog 24 #[.slice A n c] w fun e w' => e = .returned (.tuple #[adV (ofB bs).1, .int .i64 (ofB bs).2]) ∧ Fr N0 w w' := by
  unfold ofB
  by_cases h4 : n = 4
  · rw [if_pos (hn.trans h4)]
    obtain ⟨g, rfl, hc⟩ := hB (by omega)
    subst h4
    exact of4 g c bs hn hc hlt
  · rw [if_neg (by omega)]
    by_cases h16 : n = 16
    · rw [if_pos (hn.trans h16)]
      obtain ⟨g, rfl, hc⟩ := hB (by omega)
      subst h16
      exact of16 g c bs hn hc hlt
    · rw [if_neg (by omega)]
      exact of_bad A n c h4 h16
theorem rof_any (A : Option Addr) (n c : Nat) (bs : List Nat) (hn : bs.length = n) (hlt : ∀ u ∈ bs, u < 256) (hB : 0 < n → ∃ g o, A = some ⟨g, o, none⟩ ∧ ∀ (i x : Nat), bs[i]? = some x → w.cell? ⟨g, o + i, none⟩ = some (.int .u8 (x : Int))) :
    Calls Tryd.prog 25 #[.slice A n c] w fun e w' => e = .returned (.tuple #[adV (ofB bs).1, .int .i64 (ofB bs).2]) ∧ Fr N0 w w' := by
  unfold ofB
  by_cases h4 : n = 4
  · rw [if_pos (hn.trans h4)]
    obtain ⟨g, o, rfl, hc⟩ := hB (by omega)
    subst h4
    exact rof4 g o c bs hn hc hlt
  · rw [if_neg (by omega)]
    by_cases h16 : n = 16
    · rw [if_pos (hn.trans h16)]
      obtain ⟨g, o, rfl, hc⟩ := hB (by omega)
      subst h16
      exact rof16 g o c bs hn hc hlt
    · rw [if_neg (by omega)]
      exact rof_bad A n c h4 h16
end
set_option maxHeartbeats 6400000 in
set_option maxRecDepth 100000 in
theorem aof_key (w : World) (A : Option Addr) (n c : Nat) (bs : List Nat) (hn : bs.length = n) (hlt : ∀ u ∈ bs, u < 256) (hnone : A = none → n = 0 ∧ c = 0) (hn47 : n ≤ 140737488351232)
    (hB : 0 < n → ∃ g o, A = some ⟨g, o, none⟩ ∧ ∀ (i x : Nat), bs[i]? = some x → w.cell? ⟨g, o + i, none⟩ = some (.int .u8 (x : Int))) (m : Int) (hm : Mx m w) (hd : D4 w) (hsy : Sy w) :
    Calls Tryd.prog 7 #[.slice A n c] w fun e w' => e = .returned (.bool true) ∧ Fr N0 w w' := by
  obtain ⟨r, hr⟩ : ∃ r, r = ofB bs := ⟨_, rfl⟩
  obtain ⟨⟨s, h, l⟩, k⟩ := r
  have hb : ∀ W : World, Fr N0 w W → (0 < n → ∃ g o, A = some ⟨g, o, none⟩ ∧ ∀ (i x : Nat), bs[i]? = some x → W.cell? ⟨g, o + i, none⟩ = some (.int .u8 (x : Int))) := fun W hF h0 => by
    obtain ⟨g, o, e, hc⟩ := hB h0
    exact ⟨g, o, e, fun i x hi => (hF.cell (p := ⟨g, o + i, none⟩) (World.block_lt_of_cell? _ _ (hc i x hi)) id).trans (hc i x hi)⟩
  have HK : Hid (∀ (A' : Option Addr) (c' : Nat) (w3 : World), Fr N0 w w3 → Own w3 5 1 A' n c' (bs.map u8v) → ∀ W : World, Fr N0 w3 W →
      (Calls Tryd.prog 24 #[.slice A' n c'] W fun e w' => e = .returned (.tuple #[.agg #[.bool s, .int .u64 (h : Int), .int .u64 (l : Int)], .int .i64 k]) ∧ Fr N0 W w') ∧
      (Calls Tryd.prog 25 #[.slice A n c] W fun e w' => e = .returned (.tuple #[.agg #[.bool s, .int .u64 (h : Int), .int .u64 (l : Int)], .int .i64 k]) ∧ Fr N0 W w') ∧
      (Calls Tryd.prog 14 #[.slice A' n c', .slice A n c] W fun e w' => e = .returned (.bool true) ∧ Fr N0 W w')) := Lib.hid fun A' c' w3 hF3 hO W hW => by
    have ho : 0 < n → ∃ g, A' = some ⟨g, 0, none⟩ ∧ ∀ (i x : Nat), bs[i]? = some x → W.cell? ⟨g, i, none⟩ = some (.int .u8 (x : Int)) := fun h0 => by
      obtain ⟨g, e, hc⟩ := own_cells hO h0
      exact ⟨g, e, fun i x hi => (hW.cell (p := ⟨g, i, none⟩) (World.block_lt_of_cell? _ _ (hc i x hi)) id).trans (hc i x hi)⟩
    have k1 := of_any (w := W) A' n c' bs hn hlt ho
    have k2 := rof_any (w := W) A n c bs hn hlt (hb W (hF3.trans hW))
    rw [← hr] at k1 k2
    refine ⟨k1, k2, ?_⟩
    by_cases h0 : n = 0
    · subst h0
      exact same0 A' A c' c
    · obtain ⟨g, rfl, hc⟩ := ho (by omega)
      obtain ⟨g', o', rfl, hc'⟩ := hb W (hF3.trans hW) (by omega)
      exact samen g 0 n c' g' o' c bs hn (by omega) (fun i x hi => by rw [Nat.zero_add]; exact hc i x hi) hc'
  have HBB := Lib.hid hb
  have ka := awake3 (w := w) m hm hsy hd
  obtain ⟨i0, hi, hz0, hz1, hz2⟩ := info_parts info5
  have eA : ∀ (w : World), (binOp .eql 25 (.agg #[.bool s, .int .u64 (h : Int), .int .u64 (l : Int)]) (.agg #[.bool s, .int .u64 (h : Int), .int .u64 (l : Int)])).run Tryd.prog w = .ok (.bool true) w := fun w => by
    have := eql_ad ⟨s, h, l⟩ ⟨s, h, l⟩ w
    rw [decide_eq_true rfl] at this
    exact this
  have qA := fun X Y W => guard_ad .eql X Y ⟨s, h, l⟩ ⟨s, h, l⟩ W
  unfold adV at qA
  have hk2 : (k == k) = true := by simp
  have HLEN := Lib.hid hn
  clear hb hB hm hd hsy hr hlt hn
  go_enter Tryd.func7, Tryd.ntmps7
  go_wp2_with fail
  refine ka.mono ?_
  rintro e w2 ⟨rfl, hf2⟩
  have HF2 := Lib.hid hf2
  clear ka hf2
  cases A with
  | none =>
    obtain ⟨rfl, rfl⟩ := hnone rfl
    go_wp2_with (at_builtin; refine wpList_append0 w2 rfl (.tmp 10) (.tmp 11) 30 rfl 5 i0 Tryd.underlying30 hi none 0 0 [] rfl (Own.nil_ _ _ 1) rfl ?_)
    have HF3 := HF2
    have KK := Lib.hid (HK.out none 0 w2 HF2.out (by rw [List.length_eq_zero_iff.1 HLEN.out]; exact Own.nil_ _ _ _))
    clear HK HBB
    refine (KK.out _ (Fr.refl _ _)).1.mono ?_
    rintro e w4 ⟨rfl, hf4⟩
    go_wp2_with fail
    have F5 := Lib.hid (hf4.alloc (.cells #[.bool s, .int .u64 (h : Int), .int .u64 (l : Int)] 25))
    have B5 := Lib.hid (Blk.new w4 25 #[.bool s, .int .u64 (h : Int), .int .u64 (l : Int)])
    clear hf4
    generalize w4.alloc _ = w5 at *
    generalize w4.heap.size = g5 at *
    refine (KK.out _ F5.out).2.1.mono ?_
    rintro e w6 ⟨rfl, hf6⟩
    have F7 := Lib.hid ((F5.out.trans hf6).alloc (.cells #[.bool s, .int .u64 (h : Int), .int .u64 (l : Int)] 25))
    obtain ⟨a0, a1, a2⟩ := ((B5.out.fr hf6 id).alloc (.cells #[.bool s, .int .u64 (h : Int), .int .u64 (l : Int)] 25)).c3
    obtain ⟨b0, b1, b2⟩ := (Blk.new w6 25 #[.bool s, .int .u64 (h : Int), .int .u64 (l : Int)]).c3
    clear hf6
    go_wp2_with (first
      | (go_at_call 14; refine (KK.out _ F7.out).2.2.mono ?_; rintro e w8 ⟨rfl, hf8⟩))
    go_ret
    exact ⟨rfl, (HF3.out.trans F7.out).trans hf8⟩
  | some ad =>
    clear hnone
    have HNN : Hid (∀ j u, (bs.map u8v)[j]? = some u → w2.cell? (ad.add j) = some u) := Lib.hid fun j u hj => by
      rw [List.getElem?_map] at hj
      cases hx : bs[j]? with
      | none => rw [hx] at hj; cases hj
      | some x =>
        rw [hx] at hj
        cases hj
        have h0 : 0 < n := by have := (List.getElem?_eq_some_iff.1 hx).1; rw [HLEN.out] at this; omega
        obtain ⟨g, o, e, hc⟩ := HBB.out w2 HF2.out h0
        cases e
        rw [Lib.add_plain]
        exact hc j x hx
    go_wp2_with (at_builtin; refine wpList_appendM w2 rfl (.tmp 10) (.tmp 11) 30 rfl 5 i0 _ 1 1 Tryd.underlying30 hi hz0 hz1 hz2 rfl (by omega) none 0 0 [] rfl (Own.nil_ _ _ _) ad n c (bs.map u8v) rfl (by simp [HLEN.out]) HNN.out ?_ ?_ ?_ ?_)
    · intro u hu
      obtain ⟨x, _, rfl⟩ := List.mem_map.1 hu
      rfl
    · omega
    · omega
    intro A1 c1 w3 hO1 hF1 hA1
    have HF3 := Lib.hid (HF2.out.trans (hF1.mono fun _ _ h => by cases h))
    have KK := Lib.hid (HK.out A1 c1 w3 HF3.out (by simpa using hO1))
    clear HK HBB HNN hO1 hF1 hA1
    go_wp2_with fail
    refine (KK.out _ (Fr.refl _ _)).1.mono ?_
    rintro e w4 ⟨rfl, hf4⟩
    go_wp2_with fail
    have F5 := Lib.hid (hf4.alloc (.cells #[.bool s, .int .u64 (h : Int), .int .u64 (l : Int)] 25))
    have B5 := Lib.hid (Blk.new w4 25 #[.bool s, .int .u64 (h : Int), .int .u64 (l : Int)])
    clear hf4
    generalize w4.alloc _ = w5 at *
    generalize w4.heap.size = g5 at *
    refine (KK.out _ F5.out).2.1.mono ?_
    rintro e w6 ⟨rfl, hf6⟩
    have F7 := Lib.hid ((F5.out.trans hf6).alloc (.cells #[.bool s, .int .u64 (h : Int), .int .u64 (l : Int)] 25))
    obtain ⟨a0, a1, a2⟩ := ((B5.out.fr hf6 id).alloc (.cells #[.bool s, .int .u64 (h : Int), .int .u64 (l : Int)] 25)).c3
    obtain ⟨b0, b1, b2⟩ := (Blk.new w6 25 #[.bool s, .int .u64 (h : Int), .int .u64 (l : Int)]).c3
    clear hf6
    go_wp2_with (first
      | (go_at_call 14; refine (KK.out _ F7.out).2.2.mono ?_; rintro e w8 ⟨rfl, hf8⟩))
    go_ret
    exact ⟨rfl, (HF3.out.trans F7.out).trans hf8⟩
theorem aof_walk (W : World) (hS : W.ShapedOpen Tryd.prog) (ht : T10 W ∧ D4 W ∧ Sy W) (A : Option Addr) (n c : Nat) (ra : Rd Tryd.prog W 30 [.slice A n c]) (hs : n * Tryd.prog.bytesOf 5 ≤ 140737488351232) :
    Calls Tryd.prog 7 #[.slice A n c] W fun e w' => e = .returned (.bool true) ∧ Below W.heap.size W w' := by
  obtain ⟨bs, h1, h2, h3, h4⟩ := bytes_of ra
  obtain ⟨m, hm⟩ := mx_of hS
  have e1 : Tryd.prog.bytesOf 5 = 1 := by kernel_rfl
  rw [e1] at hs
  exact (aof_key W A n c bs h1 h2 h3 (by omega) h4 m hm ht.2.1 ht.2.2).mono fun e w' ⟨he, hf⟩ => ⟨he, hf.below (Nat.le_refl _) fun _ _ h => h.elim⟩
end Go.Proofs.YtejddfgmfdpnfaaDoor
namespace Go.Proofs.YtejddfgmfdpnfaaDoor
open Go.Proofs Go.Shelf Go.RowKit
/-- A slice that reads as a list of bytes. -/
def SlB (W : World) (v : Value) (bs : List Nat) : Prop :=
  ∃ A c, v = .slice A bs.length c ∧ (0 < bs.length → ∃ g, A = some ⟨g, 0, none⟩ ∧ ∀ (i x : Nat), bs[i]? = some x → W.cell? ⟨g, i, none⟩ = some (.int .u8 (x : Int)))
theorem SlB.fr {W W' : World} {v : Value} {bs : List Nat} (h : SlB W v bs) (hF : Fr N0 W W') : SlB W' v bs := by
  obtain ⟨A, c, e, h⟩ := h
  refine ⟨A, c, e, fun h0 => ?_⟩
  obtain ⟨g, e, hc⟩ := h h0
  exact ⟨g, e, fun i x hi => (hF.cell (p := ⟨g, i, none⟩) (World.block_lt_of_cell? _ _ (hc i x hi)) id).trans (hc i x hi)⟩
theorem Bx.slb {w wr : World} {v : Value} {bs : List Nat} (h : Bx w wr v bs) : SlB wr v bs := by
  obtain ⟨A, c, rfl, hO, _, _⟩ := h
  exact ⟨A, c, rfl, fun h0 => own_bytes hO h0⟩
theorem Bx.fr_ {w wr : World} {v : Value} {bs : List Nat} (h : Bx w wr v bs) : Fr N0 w wr := h.choose_spec.choose_spec.2.2.2
section
variable {w : World}
theorem same_sl {va vb : Value} {bs : List Nat} (hn : bs.length ≤ 16) (ha : SlB w va bs) (hb : SlB w vb bs) : Calls Tryd.prog 14 #[va, vb] w fun e w' => e = .returned (.bool true) ∧ Fr N0 w w' := by
  obtain ⟨A, c, rfl, ha⟩ := ha
  obtain ⟨B, d, rfl, hb⟩ := hb
  by_cases h0 : 0 < bs.length
  · obtain ⟨g, rfl, h1⟩ := ha h0
    obtain ⟨g', rfl, h2⟩ := hb h0
    exact samen g 0 bs.length c g' 0 d bs rfl (by omega) (fun i x hi => by rw [Nat.zero_add]; exact h1 i x hi) (fun i x hi => by rw [Nat.zero_add]; exact h2 i x hi)
  · have e : bs.length = 0 := by omega
    rw [e]
    exact same0 A B c d
theorem byt_sl (a : Ad) (ho : a.ok) : Calls Tryd.prog 13 #[adV a] w fun e w' => ∃ v, e = .returned v ∧ Fr N0 w w' ∧ SlB w' v (if validA a = true then bytesA a else []) :=
  (byt_ a ho).mono fun _ _ ⟨v, e, h⟩ => ⟨v, e, h.fr_, h.slb⟩
theorem rbyt_sl (a : Ad) (ho : a.ok) : Calls Tryd.prog 15 #[adV a] w fun e w' => ∃ v, e = .returned v ∧ Fr N0 w w' ∧ SlB w' v (if validA a = true then bytesA a else []) :=
  (rbyt a ho).mono fun _ _ ⟨v, e, h⟩ => ⟨v, e, h.fr_, h.slb⟩
theorem rprt_ (a : Ad) (ho : a.ok) : Calls Tryd.prog 17 #[adV a] w fun e w' => e = .returned (.string (prtA a)) ∧ Fr N0 w w' := by
  unfold prtA
  cases hv : validA a with
  | false => exact rprt_bad a hv
  | true =>
    rw [if_pos rfl]
    obtain ⟨s, h, l⟩ := a
    unfold txtA
    cases s with
    | true => exact rprt6 h l ho
    | false =>
      simp [validA] at hv
      obtain ⟨rfl, hv⟩ := hv
      exact rprt4 l hv
end
set_option maxHeartbeats 6400000 in
set_option maxRecDepth 100000 in
theorem apr_key (w : World) (a : Ad) (ho : a.ok) (m : Int) (hm : Mx m w) (ht : T10 w) (hd : D4 w) (hsy : Sy w) :
    Calls Tryd.prog 4 #[adV a] w fun e w' => e = .returned (.bool true) ∧ Fr N0 w w' := by
  have hlen : (if validA a = true then bytesA a else []).length ≤ 16 := by
    split
    · rw [bytesA_len]; split <;> omega
    · simp
  have hby := fun (W : World) => byt_ (w := W) a ho
  have hbs := fun (W : World) => byt_sl (w := W) a ho
  have hrb := fun (W : World) => rbyt_sl (w := W) a ho
  have hsm := fun (W : World) (va vb : Value) => same_sl (w := W) (va := va) (vb := vb) hlen
  generalize (if validA a = true then bytesA a else []) = bs at *
  have kp := fun (W : World) (h : Fr N0 w W) => prt_ (w := W) a (ht.fr h) (hd.fr h)
  have kq := fun (W : World) => rprt_ (w := W) a ho
  have kv := fun (W : World) => aval (w := W) a
  have kw := fun (W : World) => rval (w := W) a
  have kc := fun (W : World) => cls_ (w := W) a ho
  have kd := fun (W : World) => rcls_ (w := W) a ho
  have ks := fun (W : World) => sol_ (w := W) a ho
  have kr := fun (W : World) => rsol_ (w := W) a ho
  have ka := fun (W : World) (h : Fr N0 w W) => awake3 (w := W) m (hm.fr h) (hsy.fr h) (hd.fr h)
  generalize prtA a = T at *
  generalize clsA a = k at *
  generalize validA a = b at *
  generalize solA a = q at *
  have eA := fun (W : World) => eql_ad q q W
  have qA := fun X Y W => guard_ad .eql X Y q q W
  rw [decide_eq_true rfl] at eA
  obtain ⟨s, h, l⟩ := a
  obtain ⟨s', h', l'⟩ := q
  unfold adV at *
  have HBY := Lib.hid hby
  have HBS := Lib.hid hbs
  have HRB := Lib.hid hrb
  have HSM := Lib.hid hsm
  clear hby hbs hrb hsm hm ht hd hsy ho
  go_enter Tryd.func4, Tryd.ntmps4
  go_wp2_with fail
  have HA1 := Lib.hid (Blk.new w 25 #[Value.bool s, Value.int .u64 (h : Int), Value.int .u64 (l : Int)])
  have HF1 := Lib.hid (Fr.alloc (Fr.refl N0 w) (.cells #[Value.bool s, Value.int .u64 (h : Int), Value.int .u64 (l : Int)] 25))
  generalize w.alloc _ = w1 at *
  obtain ⟨g1, hg1⟩ : ∃ g1, g1 = w.heap.size := ⟨_, rfl⟩
  rw [← hg1] at HA1 ⊢
  have HG1 : Hid (w.heap.size ≤ g1) := Lib.hid (by omega)
  clear hg1
  have HZ1 : Hid (∀ W, Fr N0 w1 W → Blk W g1 25 #[Value.bool s, Value.int .u64 (h : Int), Value.int .u64 (l : Int)]) := Lib.hid fun W hf => HA1.out.fr hf id
  have F := Lib.hid (Fr.refl N0 w1)
  obtain ⟨z1_0, z1_1, z1_2⟩ := (HZ1.out _ F.out).c3
  have KA := Lib.hid ka
  clear ka
  refine (KA.out _ HF1.out).mono ?_
  rintro e w2 ⟨rfl, hf⟩
  have F := Lib.hid (F.out.trans hf); obtain ⟨z1_0, z1_1, z1_2⟩ := (HZ1.out _ F.out).c3
  go_wp2_with fail
  refine (HBY.out _).mono ?_
  rintro e w3 ⟨v, rfl, hB⟩
  have hf3 := hB.fr_
  have F3 := Lib.hid (F.out.trans hf3)
  have SA := Lib.hid hB.slb
  have HB3 := Lib.hid hB
  clear hf
  obtain ⟨z1_0, z1_1, z1_2⟩ := (HZ1.out _ F3.out).c3
  go_wp2_with fail
  refine (HRB.out _).mono ?_
  rintro e w4 ⟨v4, rfl, hf4, hs4⟩
  go_wp2_with fail
  refine (HSM.out _ v v4 (SA.out.fr hf4) hs4).mono ?_
  rintro e w5 ⟨rfl, hf5⟩
  have HF5 := Lib.hid (hf4.trans hf5)
  have F5 := Lib.hid (F3.out.trans HF5.out)
  obtain ⟨A, c, rfl, hO, hg, _⟩ := HB3.out
  have O5 := Lib.hid (hO.fr HF5.out fun _ _ h => h)
  have G5 := Lib.hid (fun g e => Nat.le_trans (F.out.size) (hg g e))
  have HFX := Lib.hid HF1.out
  clear hf4 hs4 hf5 hf3 hB SA HB3 hO hg z1_0 z1_1 z1_2 F
  go_wp2_with fail
  generalize hbn : bs.length = n at *
  go_loopw [6] (fun i wr => ∃ (j : Nat) (ys : List Value), j ≤ n ∧ i = .int .i64 (j : Int) ∧ Own wr 5 1 A n c ys ∧ Fr N0 w1 wr) (fun i _ => n + 1 - (intOf i).toNat)
  case atStart => exact ⟨0, _, by omega, rfl, O5.out, F5.out⟩
  case round =>
    obtain ⟨j, ys, hj, rfl, hO, hF⟩ := hrel
    have HO := Lib.hid hO
    have F := Lib.hid hF
    clear hO hF
    by_cases hjn : j < n
    · have hjI : (j : Int) < (n : Int) := by omega
      obtain ⟨g, rfl⟩ := HO.out.some_ (by omega)
      have y := HO.out.cell j (by omega)
      have yz := HO.out.cell_none j
      have hyl : j < ys.length := by have := HO.out.1; omega
      obtain ⟨u, hu⟩ : ∃ u, ys[j]? = some u := ⟨ys[j], List.getElem?_eq_getElem hyl⟩
      rw [hu] at y
      have HS := Lib.hid (HO.out.set_ j (.int .u8 9))
      have HSF := Lib.hid (F.out.setCell (p := ⟨g, j, none⟩) (.inr (G5.out g rfl)) (.int .u8 9))
      clear hu hyl
      go_wp2_with fail
      go_roundw
      case rel => exact ⟨j + 1, _, by omega, by go_num, HS.out, HSF.out⟩
      case measure => simp [intOf]; omega
    · obtain rfl : j = n := by omega
      obtain ⟨z1_0, z1_1, z1_2⟩ := (HZ1.out _ F.out).c3
      have HZA := Lib.hid fun (W : World) (hf : Fr N0 wr W) => (HZ1.out W (F.out.trans hf)).c3
      have FW := Lib.hid (HFX.out.trans F.out)
      have FZ := Lib.hid fun (W : World) (hf : Fr N0 wr W) => F.out.trans hf
      clear F
      have F := Lib.hid (Fr.refl N0 wr)
      clear O5 F5 G5 HO HF5 F3 HBY HFX
      go_wp2_with fail
      go_region_held3 (fun w' => w'.cell? ⟨g1, 0, none⟩ = some (.bool s) ∧ w'.cell? ⟨g1, 1, none⟩ = some (.int .u64 (h : Int)) ∧ w'.cell? ⟨g1, 2, none⟩ = some (.int .u64 (l : Int))) (first | go_keep | with_reducible exact HZA.out _ F.out) ((first
        | (go_at_call 13; refine (HBS.out _).mono ?_; rintro e wA ⟨vA, rfl, fA, sA⟩; have SA := Lib.hid sA; (first | (have SB := Lib.hid (SB.out.fr (Fr.trans (by repeat first | exact Fr.refl _ _ | refine Fr.drew ?_ | refine Fr.drewN ?_ _) fA))) | skip); have F := Lib.hid (F.out.trans (Fr.trans (by repeat first | exact Fr.refl _ _ | refine Fr.drew ?_ | refine Fr.drewN ?_ _) fA)))
        | (go_at_call 15; refine (HRB.out _).mono ?_; rintro e wB ⟨vB, rfl, fB, sB⟩; have SB := Lib.hid sB; (first | (have SA := Lib.hid (SA.out.fr (Fr.trans (by repeat first | exact Fr.refl _ _ | refine Fr.drew ?_ | refine Fr.drewN ?_ _) fB))) | skip); have F := Lib.hid (F.out.trans (Fr.trans (by repeat first | exact Fr.refl _ _ | refine Fr.drew ?_ | refine Fr.drewN ?_ _) fB)))
        | (go_at_call 14; refine (HSM.out _ vA vB (SA.out.fr (by repeat first | exact Fr.refl _ _ | refine Fr.drew ?_ | refine Fr.drewN ?_ _)) (SB.out.fr (by repeat first | exact Fr.refl _ _ | refine Fr.drew ?_ | refine Fr.drewN ?_ _))).mono ?_; rintro e w7 ⟨rfl, fS⟩; have F := Lib.hid (F.out.trans (Fr.trans (by repeat first | exact Fr.refl _ _ | refine Fr.drew ?_ | refine Fr.drewN ?_ _) fS)))))
      all_goals
        have u0 := fun x : Fam w7 => (HZA.out x.w (F.out.trans x.fr)).1
        have u1 := fun x : Fam w7 => (HZA.out x.w (F.out.trans x.fr)).2.1
        have u2 := fun x : Fam w7 => (HZA.out x.w (F.out.trans x.fr)).2.2
        have KP := Lib.hid fun (x : Fam w7) => kp x.w (FW.out.trans (F.out.trans x.fr))
        clear z1_0 z1_1 z1_2 kp
        go_wp2_with fail
        refine wp_region_fam (by kernel_rfl) (by kernel_rfl) ?_
        repeat (go_big_quiet_step ((first
          | (go_at_call 16; exact fam_call (KP.out _))
          | (go_at_call 17; exact fam_call (kq _))
          | (go_at_call 18; exact fam_call (kv _))
          | (go_at_call 19; exact fam_call (kw _))
          | (go_at_call 20; exact fam_call (kc _))
          | (go_at_call 21; exact fam_call (kd _))
          | (go_at_call 22; exact fam_call (ks _))
          | (go_at_call 23; exact fam_call (kr _)))))
        first | refine wpQuiet_nil ?_ | (go_big_quiet_want; go_big_quiet_op; done)
        rintro _ ⟨xq, rfl⟩
        go_wp2_with fail
        go_ret
        exact ⟨rfl, FW.out.trans (F.out.trans xq.fr)⟩
theorem apr_walk (W : World) (hS : W.ShapedOpen Tryd.prog) (ht : T10 W ∧ D4 W ∧ Sy W) (A : Array Value) (ra : Rd Tryd.prog W 25 A.toList) :
    Calls Tryd.prog 4 #[.agg A] W fun e w' => e = .returned (.bool true) ∧ Below W.heap.size W w' := by
  obtain ⟨p, ep, hp⟩ := rd_ad ra
  rw [ad_arr ep]
  obtain ⟨m, hm⟩ := mx_of hS
  exact (apr_key W p hp m hm ht.1 ht.2.1 ht.2.2).mono fun e w' ⟨he, hf⟩ => ⟨he, hf.below (Nat.le_refl _) fun _ _ h => h.elim⟩
end Go.Proofs.YtejddfgmfdpnfaaDoor
