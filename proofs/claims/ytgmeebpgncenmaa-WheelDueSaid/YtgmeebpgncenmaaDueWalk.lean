/- WheelDue answers true. -/
import Derived.Test.YtgmeebpgncenmaaDueP
import Derived.IntWalk
namespace Go.Proofs.Ytgmeebpgncenmaa
open Go.RowKit

/-- What of the wheel may turn: not the row E, not the block gx. -/
def Fx (w : World) (E : Option Addr) (gx : Nat) (i : Nat) : Prop := w.heap.size ≤ i ∧ E ≠ some ⟨i, 0, none⟩ ∧ i ≠ gx
/-- A row of the law's own, D, beside a wheel in which L waits. -/
def DSt (w : World) (b j now added : Nat) (L : List Tm) (D : List Int) (E : Option Addr) (dc gx : Nat) (wx : World) : Prop :=
  D.length = j ∧ Own wx 3 1 E j dc (ints D) ∧ (∀ g, E = some ⟨g, 0, none⟩ → w.heap.size ≤ g) ∧ Whl wx b (Fx w E gx) now added L ∧ Below w.heap.size w wx
section
variable {w wx w' : World} {b j now added : Nat} {L : List Tm} {D : List Int} {E : Option Addr} {dc gx : Nat}
theorem DSt.fr0 (h : DSt w b j now added L D E dc gx wx) (f : Fr (fun _ => False) wx w') : DSt w b j now added L D E dc gx w' :=
  ⟨h.1, h.2.1.fr f fun _ _ => id, h.2.2.1, h.2.2.2.1.fr0 f, below_fr h.2.2.2.2 f h.2.2.2.2.size fun _ h => h.elim⟩
/-- Another block, a new one, is kept clear of. -/
theorem DSt.clear (h : DSt w b j now added L D E dc gx wx) : DSt w b j now added L D E dc wx.heap.size wx :=
  ⟨h.1, h.2.1, h.2.2.1, h.2.2.2.1.mono fun i hi hF => ⟨hF.1, hF.2.1, by omega⟩, h.2.2.2.2⟩
/-- The row has grown. -/
theorem DSt.more (h : DSt w b j now added L D E dc gx wx) {g' c' : Nat} {D' : List Int} {j' : Nat} (hl : D'.length = j') (ho : Own w' 3 1 (some ⟨g', 0, none⟩) j' c' (ints D')) (f : Fr (fun i => E = some ⟨i, 0, none⟩) wx w') (hg : E = some ⟨g', 0, none⟩ ∨ wx.heap.size ≤ g') :
    DSt w b j' now added L D' (some ⟨g', 0, none⟩) c' gx w' := by
  obtain ⟨h1, h2, h3, h4, h5⟩ := h
  have hge : w.heap.size ≤ g' := by
    rcases hg with h6 | h6
    · exact h3 _ h6
    · exact Nat.le_trans h5.size h6
  refine ⟨hl, ho, fun g e => ?_, ?_, below_fr h5 f h5.size fun i hi => h3 i hi⟩
  · rw [Option.some.injEq, Addr.mk.injEq] at e; rw [← e.1]; exact hge
  · have h6 : Whl wx b (fun i => Fx w E gx i ∧ g' ≠ i) now added L := h4.mono fun i hi hF => ⟨hF, fun e => by
      subst e
      rcases hg with h6 | h6
      · exact hF.2.1 h6
      · omega⟩
    refine (h6.fr f fun i hi => hi.1.2.1).mono fun i _ hi => ⟨hi.1.1, fun e => ?_, hi.1.2.2⟩
    rw [Option.some.injEq, Addr.mk.injEq] at e
    exact hi.2 e.1
/-- A cell of the row is written. -/
theorem DSt.put {g : Nat} (h : DSt w b j now added L D (some ⟨g, 0, none⟩) dc gx wx) (k : Nat) (v : Int) : DSt w b j now added L (D.set k v) (some ⟨g, 0, none⟩) dc gx (wx.setCell ⟨g, k, none⟩ (.int .i64 v)) := by
  obtain ⟨h1, h2, h3, h4, h5⟩ := h
  have f : Fr (fun i => i = g) wx (wx.setCell ⟨g, k, none⟩ (.int .i64 v)) := (Fr.refl (fun i => i = g) _).setCell (.inl rfl) _
  refine ⟨by simpa using h1, ?_, h3, h4.fr f fun i hi e => hi.2.1 (by rw [e]), below_fr h5 f h5.size fun i hi => by rw [hi]; exact h3 g rfl⟩
  have := h2.set_ k (.int .i64 v)
  rw [show (ints D).set k (.int .i64 v) = ints (D.set k v) by simp [ints]] at this
  exact this
/-- The wheel has turned. -/
theorem DSt.turn (h : DSt w b j now added L D E dc gx wx) (hgx : gx < wx.heap.size) {now' added' : Nat} {L' : List Tm} (hw : Whl w' b (Fn (Fx w E gx) wx) now' added' L') (f : Fr (Fx w E gx) wx w') : DSt w b j now' added' L' D E dc gx w' := by
  obtain ⟨h1, h2, h3, h4, h5⟩ := h
  refine ⟨h1, h2.fr f fun g hg hF => hF.2.1 hg, h3, hw.mono fun i _ hi => ?_, below_fr h5 f h5.size fun i hi => hi.1⟩
  rcases hi with hi | hi
  · exact hi
  · exact ⟨Nat.le_trans h5.size hi, fun e => by have := h2.lt e; omega, by omega⟩
theorem DSt.cell {g : Nat} (h : DSt w b j now added L D (some ⟨g, 0, none⟩) dc gx wx) {k : Nat} {v : Int} (hv : D[k]? = some v) : wx.cell? ⟨g, k, none⟩ = some (.int .i64 v) := by
  rw [h.2.1.cell k (by have := (List.getElem?_eq_some_iff.1 hv).1; have := h.1; omega)]
  exact ints_at hv
end
/-- Behind j steps. -/
def DLaw (w : World) (b j : Nat) (v : Value) (wx : World) : Prop :=
  ∃ (now added : Nat) (L : List Tm) (D : List Int) (E : Option Addr) (dc gx : Nat), v = .slice E j dc ∧ DSt w b j now added L D E dc gx wx ∧ DR D L ∧ now ≤ 600 * j ∧ added ≤ j

set_option maxRecDepth 100000 in
set_option maxHeartbeats 3200000 in
theorem due_any (w : World) (A : Option Addr) (len cap : Nat) (hrd : Rd Try.prog w 32 [.slice A len cap]) (_ : len * Try.prog.bytesOf 36 ≤ 140737488351232) :
    Calls Try.prog 5 #[.slice A len cap] w fun e w' => e = .returned (.bool true) ∧ Below w.heap.size w w' := by
  obtain ⟨hst, hlen⟩ := steps_in hrd
  have HST := Lib.hid hst
  clear hst hrd
  go_enter Try.func5, Try.ntmps5
  go_wp2_with fail
  refine (awake_any _).mono ?_
  rintro e w1 ⟨rfl, hB1⟩
  have H1 := Lib.hid hB1
  clear hB1
  go_wp2_with fail
  refine (whl_new _).mono ?_
  rintro e w2 ⟨rfl, h2, f2⟩
  have h2 := h2.mono (G := Fx w none w2.heap.size) fun i hl hi => ⟨Nat.le_trans H1.out.size hi, nofun, by omega⟩
  have B2 := Lib.hid (below_fr H1.out f2 H1.out.size fun _ h => h.elim)
  clear f2
  generalize w1.heap.size + 1 = b at *
  have HN := Lib.hid (show DLaw w b 0 (.slice none 0 0) w2 from ⟨0, 0, [], [], none, 0, _, rfl, ⟨rfl, Own.nil_ _ _ _, nofun, h2, B2.out⟩, DR.nil, by omega, by omega⟩)
  clear h2
  go_wp2_with fail
  go_loopg [5, 6] 60 (fun gk v5 v6 wr => ∃ j : Nat, j + gk = 60 ∧ j ≤ len ∧ v6 = .int .i64 (j : Int) ∧ DLaw w b j v5 wr)
  case atStart => exact ⟨0, by omega, Nat.zero_le _, rfl, HN.out⟩
  case round =>
    obtain ⟨j, hj, hjl, rfl, hN⟩ := hrel
    have HJ := Lib.hid hj
    have hj2 : j ≤ 60 := by omega
    obtain ⟨now, added, L, D, E, dc, gx0, rfl, hS, hR, hnow, hadd⟩ := hN
    have HS := Lib.hid hS
    have HR := Lib.hid hR
    clear hj hS hR HN
    by_cases hlt : j < len
    · by_cases hlt2 : j < 60
      · obtain ⟨sb, so, rfl, hsw, hi⟩ := HST.out (by omega)
        obtain ⟨x, n, s, ⟨hx, hn, hs⟩, e0, e1, e2⟩ := hi j hlt
        have E0 := Lib.hid e0
        have E1 := Lib.hid e1
        have E2 := Lib.hid e2
        have HXI := Lib.hid hx
        have HNI := Lib.hid hn
        have HSI := Lib.hid hs
        clear e0 e1 e2 hi hx hn hs
        have hand := i64_and3 x
        have hb60 : decide ((j : Int) < 60) = true := decide_eq_true (by omega)
        go_upto_block 1 with fail
        go_cut [5, 7, 8, 9, 10, 11, 12] (fun v5 _ _ _ _ _ _ wx => DLaw w b (j + 1) v5 wx)
        case first =>
          obtain ⟨i0, hi, hz0, hz1, hz2⟩ := info_parts info_i64
          go_wp2_with (at_builtin; refine wpList_append1 wr rfl (.tmp 31) (.tmp 32) 25 rfl 3 i0 _ 1 8 Try.underlying25 hi hz0 hz1 hz2 rfl (by omega) E j dc _ rfl HS.out.2.1 [.int .i64 (-1)] rfl rfl ?_ ?_ ?_ ?_)
          · intro u hu; simp at hu; subst hu; rfl
          · omega
          · omega
          · intro g' c' w3 ho f3 hg3
            rw [show ints D ++ [Value.int .i64 (-1)] = ints (D ++ [-1]) by simp [ints]] at ho
            have HS3 := Lib.hid (HS.out.more (by rw [List.length_append, HS.out.1]; rfl) ho f3 hg3).clear
            clear ho f3 hg3 hi hz0 hz1 hz2
            have hDl : (D ++ [-1]).length = j + 1 := HS3.out.1
            have hDj : (D ++ [-1])[j]? = some (-1) := by rw [List.getElem?_append_right (by simp at hDl; omega)]; simp at hDl; simp [hDl]
            have HDL := Lib.hid hDl
            have HDJ := Lib.hid hDj
            clear hDl hDj
            have c0 := (HS3.out.2.2.2.2.cell (p := ⟨sb, so + j * 3, none⟩) hsw).trans E0.out
            have c1 := (HS3.out.2.2.2.2.cell (p := ⟨sb, so + j * 3 + 1, none⟩) hsw).trans E1.out
            have c2 := (HS3.out.2.2.2.2.cell (p := ⟨sb, so + j * 3 + 2, none⟩) hsw).trans E2.out
            by_cases hx0 : x % 4 = 0
            · have hxa : (x % 4 == 0) = true := by simp [hx0]
              clear hx0
              go_wp2_with fail
              have hB4 : Blk (w3.alloc (.cells #[.int .i64 x, .int .i64 n, .int .i64 s] 36)) w3.heap.size 36 #[.int .i64 x, .int .i64 n, .int .i64 s] := Blk.new _ _ _
              have HS4 := Lib.hid (HS3.out.fr0 ((Fr.refl _ w3).alloc (.cells #[.int .i64 x, .int .i64 n, .int .i64 s] 36)))
              clear c0 c1 c2
              generalize w3.alloc (.cells #[.int .i64 x, .int .i64 n, .int .i64 s] 36) = w4 at *
              generalize w3.heap.size = gx at *
              have hgx := hB4.lt
              refine (whl_add HS4.out.2.2.2.1 (by omega) (by omega) (j : Int) s ⟨by omega, by omega⟩).mono ?_
              rintro e w5 ⟨r5, a5, L5, rfl, hr5, hw5, hf5⟩
              have hS5 := HS4.out.turn hgx hw5 hf5
              have hB5 := hB4.fr hf5 fun h => h.2.2 rfl
              rcases hr5 with ⟨hno, rfl, rfl⟩ | ⟨rfl, ha1, ha2, hne, hl5, rfl, rfl⟩
              · have hr0 : ((r5 : Int) == 0) = false := by rcases hno with ⟨_, rfl⟩ | ⟨_, _, _, rfl⟩ | ⟨_, _, _, _, rfl⟩ <;> rfl
                have HS5 := Lib.hid hS5
                clear hno hS5 hw5 hf5 hB5 hB4
                go_wp2_with fail
                go_meet
                exact ⟨now, a5, L5, _, _, _, _, rfl, HS5.out, HR.out.snoc, by omega, by omega⟩
              · have HS5 := Lib.hid hS5
                have y2 := hB5.cell 2
                simp only [List.getElem?_toArray, List.getElem?_cons_zero, List.getElem?_cons_succ] at y2
                have z5 := HS5.out.cell HDJ.out
                have zf := HS5.out.2.1.cell_none j
                have hWN := fun i => whl_now (HS5.out.fr0 ((Fr.refl _ w5).drewN i)).2.2.2.1
                have HWN := Lib.hid hWN
                have hgx5 := hB5.lt
                clear hS5 hw5 hf5 hB5 hB4 hne hWN
                go_wp2_with fail
                go_region_with (go_at_call 22; refine (whl_now (HS5.out.fr0 (by repeat first | exact Fr.refl _ _ | refine Fr.drew ?_ | refine Fr.drewN ?_ _)).2.2.2.1).mono ?_; rintro e w6 ⟨rfl, rfl⟩)
                all_goals
                  go_wp2_with fail
                  go_meet
                  refine ⟨now, added + 1, _, _, _, _, _, rfl, (DSt.put HS5.out j ((now : Int) + s)).fr0 (by repeat first | exact Fr.refl _ _ | refine Fr.drew ?_ | refine Fr.drewN ?_ _), ?_, by omega, by omega⟩
                  have h1 := HR.out.add (now + s.toNat) (added + 1)
                  have h2 : D.length = j := by have := HDL.out; simp at this; exact this
                  rw [h2, show ((now + s.toNat : Nat) : Int) = (now : Int) + s by omega] at h1
                  exact h1
            · have hxa : (x % 4 == 0) = false := by simp [hx0]
              by_cases hx1 : x % 4 = 1
              · have hxb : (x % 4 == 1) = true := by simp [hx1]
                clear hx0 hx1
                go_wp2_with fail
                have hB4 : Blk (w3.alloc (.cells #[.int .i64 x, .int .i64 n, .int .i64 s] 36)) w3.heap.size 36 #[.int .i64 x, .int .i64 n, .int .i64 s] := Blk.new _ _ _
                have HS4 := Lib.hid (HS3.out.fr0 ((Fr.refl _ w3).alloc (.cells #[.int .i64 x, .int .i64 n, .int .i64 s] 36)))
                clear c0 c1 c2
                generalize w3.alloc (.cells #[.int .i64 x, .int .i64 n, .int .i64 s] 36) = w4 at *
                generalize w3.heap.size = gx at *
                have hgx := hB4.lt
                refine (whl_add HS4.out.2.2.2.1 (by omega) (by omega) (j : Int) s ⟨by omega, by omega⟩).mono ?_
                rintro e w5 ⟨r5, a5, L5, rfl, hr5, hw5, hf5⟩
                have hS5 := HS4.out.turn hgx hw5 hf5
                have hB5 := hB4.fr hf5 fun h => h.2.2 rfl
                rcases hr5 with ⟨hno, rfl, rfl⟩ | ⟨rfl, ha1, ha2, hne, hl5, rfl, rfl⟩
                · have hr0 : ((r5 : Int) == 0) = false := by rcases hno with ⟨_, rfl⟩ | ⟨_, _, _, rfl⟩ | ⟨_, _, _, _, rfl⟩ <;> rfl
                  have HS5 := Lib.hid hS5
                  clear hno hS5 hw5 hf5 hB5 hB4
                  go_wp2_with fail
                  go_meet
                  exact ⟨now, a5, L5, _, _, _, _, rfl, HS5.out, HR.out.snoc, by omega, by omega⟩
                · have HS5 := Lib.hid hS5
                  have y2 := hB5.cell 2
                  simp only [List.getElem?_toArray, List.getElem?_cons_zero, List.getElem?_cons_succ] at y2
                  have z5 := HS5.out.cell HDJ.out
                  have zf := HS5.out.2.1.cell_none j
                  have hWN := fun i => whl_now (HS5.out.fr0 ((Fr.refl _ w5).drewN i)).2.2.2.1
                  have HWN := Lib.hid hWN
                  have hgx5 := hB5.lt
                  clear hS5 hw5 hf5 hB5 hB4 hne hWN
                  go_wp2_with fail
                  go_region_with (go_at_call 22; refine (whl_now (HS5.out.fr0 (by repeat first | exact Fr.refl _ _ | refine Fr.drew ?_ | refine Fr.drewN ?_ _)).2.2.2.1).mono ?_; rintro e w6 ⟨rfl, rfl⟩)
                  all_goals
                    go_wp2_with fail
                    go_meet
                    refine ⟨now, added + 1, _, _, _, _, _, rfl, (DSt.put HS5.out j ((now : Int) + s)).fr0 (by repeat first | exact Fr.refl _ _ | refine Fr.drew ?_ | refine Fr.drewN ?_ _), ?_, by omega, by omega⟩
                    have h1 := HR.out.add (now + s.toNat) (added + 1)
                    have h2 : D.length = j := by have := HDL.out; simp at this; exact this
                    rw [h2, show ((now + s.toNat : Nat) : Int) = (now : Int) + s by omega] at h1
                    exact h1
              · have hxb : (x % 4 == 1) = false := by simp [hx1]
                by_cases hx2 : x % 4 = 2
                · have hxc : (x % 4 == 2) = true := by simp [hx2]
                  clear hx0 hx1 hx2
                  go_upto_if 104 with fail
                  have hB4 : Blk (w3.alloc (.cells #[.int .i64 x, .int .i64 n, .int .i64 s] 36)) w3.heap.size 36 #[.int .i64 x, .int .i64 n, .int .i64 s] := Blk.new _ _ _
                  have HS4 := Lib.hid (HS3.out.fr0 ((Fr.refl _ w3).alloc (.cells #[.int .i64 x, .int .i64 n, .int .i64 s] 36)))
                  clear c0 c1 c2
                  generalize w3.alloc (.cells #[.int .i64 x, .int .i64 n, .int .i64 s] 36) = w4 at *
                  generalize w3.heap.size = gx at *
                  have hgx := hB4.lt
                  have hn1 : -9223372036854775808 ≤ n := HNI.out.1
                  have hn2 : n ≤ 9223372036854775807 := HNI.out.2
                  clear hB4
                  go_cut [8] (fun v8 wx => ∃ f : Nat, f ≤ 9223372036854775807 ∧ v8 = .int .i64 (f : Int) ∧ wx = w4)
                  case first =>
                    by_cases hneg : n < 0
                    · go_wp2_with fail
                      go_meet
                      exact ⟨(-(n + 1)).toNat, by omega, by rw [Int.toNat_of_nonneg (by omega)], rfl⟩
                    · go_wp2_with fail
                      go_meet
                      exact ⟨n.toNat, by omega, by rw [Int.toNat_of_nonneg (by omega)], rfl⟩
                  case rest =>
                    obtain ⟨f, hf, rfl, rfl⟩ := hcut
                    obtain ⟨k, hk⟩ : ∃ k : Nat, k = f % (j + 1) := ⟨_, rfl⟩
                    have hkj : k < j + 1 := by rw [hk]; exact Nat.mod_lt _ (by omega)
                    have HKE := Lib.hid (show ((f : Int) % ((j : Int) + 1)) = (k : Int) by rw [hk, Int.natCast_emod]; rfl)
                    obtain ⟨v, hv⟩ : ∃ v, (D ++ [-1])[k]? = some v := ⟨_, List.getElem?_eq_getElem (by rw [HDL.out]; exact hkj)⟩
                    have HV := Lib.hid hv
                    have z4 := HS4.out.cell hv
                    clear hk hv
                    go_upto_region 36 with fail
                    rw [HKE.out]
                    go_region_with (go_at_call 16; refine (whl_cancel (HS4.out.fr0 (by repeat first | exact Fr.refl _ _ | refine Fr.drew ?_ | refine Fr.drewN ?_ _)).2.2.2.1 (by omega) (k : Int) ⟨by omega, by omega⟩).mono ?_; rintro e w5 ⟨r5, L5, rfl, hr5, hw5, hf5⟩; have z5 := (HS4.out.turn hgx (hw5.mono fun _ _ h => h) (Fr.trans (by repeat first | exact Fr.refl _ _ | refine Fr.drew ?_ | refine Fr.drewN ?_ _) hf5)).cell HV.out; obtain ⟨hrv, hR5⟩ := HR.out.snoc.cancel hr5 HV.out; subst hrv)
                    all_goals
                      have hS5 := HS4.out.turn hgx (hw5.mono fun _ _ h => h) (Fr.trans (by repeat first | exact Fr.refl _ _ | refine Fr.drew ?_ | refine Fr.drewN ?_ _) hf5)
                      have HS5 := Lib.hid hS5
                      have HR5 := Lib.hid hR5
                      have zf := HS5.out.2.1.cell_none k
                      clear hS5 hR5 hr5 hw5 hf5
                      go_wp2_with fail
                      go_meet
                      exact ⟨now, added, L5, _, _, _, _, rfl, (DSt.put HS5.out k (-1)).fr0 (by repeat first | exact Fr.refl _ _ | refine Fr.drew ?_ | refine Fr.drewN ?_ _), HR5.out, by omega, by omega⟩
                · have hxc : (x % 4 == 2) = false := by simp [hx2]
                  clear hx0 hx1 hx2
                  go_wp2_with fail
                  have hB4 : Blk (w3.alloc (.cells #[.int .i64 x, .int .i64 n, .int .i64 s] 36)) w3.heap.size 36 #[.int .i64 x, .int .i64 n, .int .i64 s] := Blk.new _ _ _
                  have HS4 := Lib.hid (HS3.out.fr0 ((Fr.refl _ w3).alloc (.cells #[.int .i64 x, .int .i64 n, .int .i64 s] 36)))
                  clear c0 c1 c2
                  generalize w3.alloc (.cells #[.int .i64 x, .int .i64 n, .int .i64 s] 36) = w4 at *
                  generalize w3.heap.size = gx at *
                  have HB4 := Lib.hid hB4
                  have HR4 := Lib.hid HR.out.snoc
                  clear hB4
                  go_loopw [9, 10, 11, 12] (fun v9 _ _ _ wr => ∃ (q : Nat) (L1 : List Tm) (D1 : List Int), q ≤ tks s ∧ v9 = .int .i64 (q : Int) ∧ DSt w b (j + 1) (now + q) added L1 D1 (some ⟨g', 0, none⟩) c' gx wr ∧ DR D1 L1 ∧ Blk wr gx 36 #[.int .i64 x, .int .i64 n, .int .i64 s]) (fun v _ _ _ _ => 600 - (intOf v).toNat)
                  case atStart => exact ⟨0, L, D ++ [-1], Nat.zero_le _, rfl, HS4.out, HR4.out, HB4.out⟩
                  case round =>
                    obtain ⟨q, L1, D1, hq, rfl, hS1, hR1, hB1⟩ := hrel
                    have htl := tks_lt s
                    have hgx1 := hB1.lt
                    have k0 := hB1.cell 0
                    have k1 := hB1.cell 1
                    have k2 := hB1.cell 2
                    simp only [List.getElem?_toArray, List.getElem?_cons_zero, List.getElem?_cons_succ] at k0 k1 k2
                    have hal : Fr (fun _ => False) wr (wr.alloc (.cells #[.int .i64 x, .int .i64 n, .int .i64 s] 36)) := (Fr.refl _ _).alloc _
                    have HS5 := Lib.hid (hS1.fr0 hal)
                    have HB5 := Lib.hid (hB1.fr hal id)
                    have HR1 := Lib.hid hR1
                    clear hS1 hB1 hR1 hal
                    go_wp2_with fail
                    refine (ticks_any x n s HSI.out _).mono ?_
                    rintro e w5 ⟨rfl, rfl⟩
                    clear k0 k1 k2 hgx1
                    generalize wr.alloc (.cells #[.int .i64 x, .int .i64 n, .int .i64 s] 36) = W at *
                    by_cases hqt : q < tks s
                    · go_wp2_with fail
                      refine (whl_tick HS5.out.2.2.2.1 (by omega)).mono ?_
                      rintro e w6 ⟨R, rc, rfl, o6, h6, f6, n6⟩
                      obtain ⟨n1, hn1⟩ : ∃ n1, n1 = now + q + 1 := ⟨_, rfl⟩
                      rw [← hn1] at o6 h6 ⊢
                      have hS6 := HS5.out.turn HB5.out.lt (h6.mono fun _ _ h => h.1) f6
                      have HS6 := Lib.hid hS6
                      have HB6 := Lib.hid (HB5.out.fr f6 fun h => h.2.2 rfl)
                      have hRg : ∀ g, R = some ⟨g, 0, none⟩ → g ≠ g' := fun g e => by have := n6 g e; have := HS5.out.2.1.lt rfl; omega
                      have HRG := Lib.hid hRg
                      have HN1 := Lib.hid hn1
                      rw [idV_ints] at o6
                      have hml : (dids L1 n1).length = (dueL L1 n1).length := by simp [dids]
                      have HDIO := Lib.hid (dids_ord HR1.out n1)
                      have HDII := Lib.hid (fun (jj : Nat) (v : Int) (hv : D1[jj]? = some v) => dids_iff HR1.out (n := n1) hv)
                      have HDIL := Lib.hid (dids_lt HR1.out n1)
                      have HO6 : Hid (Own w6 3 1 R (dueL L1 n1).length rc (ints (dids L1 n1))) := Lib.hid o6
                      have hmb : (dueL L1 n1).length ≤ 1000 := Nat.le_trans (List.length_filter_le _ _) HS5.out.2.2.2.1.len
                      have hnb : n1 ≤ 100000 := by omega
                      have HML := Lib.hid hml
                      clear hS6 h6 f6 n6 o6 hRg hml hn1
                      generalize (dueL L1 n1).length = m at *
                      generalize dids L1 n1 = ids at *
                      go_wp2_with fail
                      go_loopw [11, 12] (fun v11 v12 wi => ∃ k jj : Nat, jj ≤ j + 1 ∧ v11 = .int .i64 (k : Int) ∧ v12 = .int .i64 (jj : Int) ∧ DSt w b (j + 1) n1 added (leftL L1 n1) (clr D1 (n1 : Int) jj) (some ⟨g', 0, none⟩) c' gx wi ∧ Own wi 3 1 R m rc (ints ids) ∧ Part ids k jj ∧ Blk wi gx 36 #[.int .i64 x, .int .i64 n, .int .i64 s]) (fun _ v _ => 100 - (intOf v).toNat)
                      case atStart => exact ⟨0, 0, by omega, rfl, rfl, by rw [clr_zero]; exact HS6.out, HO6.out, Part.zero (fun y hy => (HDIL.out y hy).1), HB6.out⟩
                      case round =>
                        obtain ⟨k, jj, hjj, rfl, rfl, hSi, hOi, hP, hBi⟩ := hrel
                        have HSI2 := Lib.hid hSi
                        have HOI := Lib.hid hOi
                        have HP := Lib.hid hP
                        have HBI := Lib.hid hBi
                        have hkm : k ≤ m := by have := hP.1; have := HML.out; omega
                        clear hSi hOi hP hBi HS6 HO6 HB6
                        by_cases hjl2 : jj < j + 1
                        · have hji : (jj : Int) ≤ (j : Int) := by omega
                          obtain ⟨v, hv⟩ : ∃ v, D1[jj]? = some v := ⟨_, List.getElem?_eq_getElem (by have h1 := HSI2.out.1; rw [clr_len] at h1; omega)⟩
                          have zc := HSI2.out.cell (clr_at (n := (n1 : Int)) hv)
                          have zf := HSI2.out.2.1.cell_none jj
                          have hvb : I64 v := by
                            rcases HR1.out.of_i jj v hv with h1 | ⟨t, h1, h2, h3⟩
                            · subst h1; exact ⟨by omega, by omega⟩
                            · have := HS5.out.2.2.2.1.due t h1; exact ⟨by omega, by omega⟩
                          have HV := Lib.hid hv
                          clear hv hvb
                          by_cases hvn : v = (n1 : Int)
                          · subst hvn
                            obtain ⟨hlk, hP2⟩ := HP.out.yes HDIO.out ((HDII.out jj _ HV.out).2 rfl)
                            have hkl : k < m := by have := (List.getElem?_eq_some_iff.1 hlk).1; have := HML.out; omega
                            obtain ⟨gR, hgR⟩ := HOI.out.some_ (by omega)
                            subst hgR
                            have zr := HOI.out.cell k (by omega)
                            rw [ints_at hlk] at zr
                            have hgne := HRG.out gR rfl
                            have HP2 := Lib.hid hP2
                            have HS7 := Lib.hid (HSI2.out.put jj (-1))
                            rw [clr_yes HV.out] at HS7
                            have hWN := fun i => whl_now (HSI2.out.fr0 ((Fr.refl _ wr).drewN i)).2.2.2.1
                            have HWN := Lib.hid hWN
                            have HOIQ := Lib.hid (fun i => (HOI.out.fr (S := fun k => k = g') ((Fr.setCell (p := ⟨g', jj, none⟩) ((Fr.refl (fun k => k = g') wr).drewN i) (.inl rfl) (.int .i64 (-1)))) fun g e h => hgne (by rw [Option.some.injEq, Addr.mk.injEq] at e; omega)))
                            have HBIQ := Lib.hid (fun i => HBI.out.fr (S := fun k => k = g') ((Fr.setCell (p := ⟨g', jj, none⟩) ((Fr.refl (fun k => k = g') wr).drewN i) (.inl rfl) (.int .i64 (-1)))) (fun h => by
                              have := HSI2.out.2.1
                              exact this.block_ne HBI.out (by decide) h.symm))
                            clear hlk hP2 hWN
                            go_wp2_with fail
                            go_quiet ((go_at_call 22; exact Calls.quiet_of_same (left_same (HWN.out _))))
                            go_wp2_with fail
                            go_roundw
                            case rel => first
                              | exact ⟨k + 1, jj + 1, by omega, by go_num, by go_num, HS7.out.fr0 ((Fr.refl _ _).drewN _), HOIQ.out _, HP2.out, HBIQ.out _⟩
                              | ((repeat apply Exists.intro); exact ⟨⟨k + 1, jj + 1, by omega, by go_num, by go_num, HS7.out.fr0 ((Fr.refl _ _).drewN _), HOIQ.out _, HP2.out, HBIQ.out _⟩, rfl⟩)
                            case measure => simp [intOf]; omega
                          · have hvz : (v == (n1 : Int)) = false := by simpa using hvn
                            have HP2 := Lib.hid (HP.out.no (fun h => hvn ((HDII.out jj _ HV.out).1 h)))
                            have HS7 := HSI2
                            rw [← clr_no HV.out hvn] at HS7
                            have hWN := fun i => whl_now (HSI2.out.fr0 ((Fr.refl _ wr).drewN i)).2.2.2.1
                            have HWN := Lib.hid hWN
                            clear hvn hWN
                            go_wp2_with fail
                            go_quiet ((go_at_call 22; exact Calls.quiet_of_same (left_same (HWN.out _))))
                            go_wp2_with fail
                            go_roundw
                            case rel => first
                              | exact ⟨k, jj + 1, by omega, by go_num, by go_num, HS7.out.fr0 ((Fr.refl _ _).drewN _), HOI.out.fr (S := fun _ => False) ((Fr.refl _ _).drewN _) (fun _ _ => id), HP2.out, HBI.out.fr (S := fun _ => False) ((Fr.refl _ _).drewN _) id⟩
                              | ((repeat apply Exists.intro); exact ⟨⟨k, jj + 1, by omega, by go_num, by go_num, HS7.out.fr0 ((Fr.refl _ _).drewN _), HOI.out.fr (S := fun _ => False) ((Fr.refl _ _).drewN _) (fun _ _ => id), HP2.out, HBI.out.fr (S := fun _ => False) ((Fr.refl _ _).drewN _) id⟩, rfl⟩)
                            case measure => simp [intOf]; omega
                        · obtain rfl : jj = j + 1 := by omega
                          have hD1l : D1.length = j + 1 := by have h1 := HSI2.out.1; rwa [clr_len] at h1
                          have hkm2 : k = m := by have h1 := HP.out.all (fun y hy => by have := (HDIL.out y hy).2; omega); have := HML.out; omega
                          subst hkm2
                          have hkk : ((k : Int) != (k : Int)) = false := by simp
                          have HDR := Lib.hid (show DR (clr D1 (n1 : Int) (j + 1)) (leftL L1 n1) by rw [← hD1l]; exact HR1.out.tick n1)
                          have HNQ := Lib.hid (show n1 = now + (q + 1) by have := HN1.out; omega)
                          have HS8 := HSI2
                          rw [HNQ.out] at HS8
                          have HDR8 := HDR
                          rw [HNQ.out] at HDR8
                          clear hD1l
                          go_wp2_with fail
                          go_roundw
                          case rel => first
                            | exact ⟨q + 1, leftL L1 (now + (q + 1)), clr D1 ((now + (q + 1) : Nat) : Int) (j + 1), by omega, by go_num, HS8.out, HDR8.out, HBI.out⟩
                            | ((repeat apply Exists.intro); exact ⟨⟨q + 1, leftL L1 (now + (q + 1)), clr D1 ((now + (q + 1) : Nat) : Int) (j + 1), by omega, by go_num, HS8.out, HDR8.out, HBI.out⟩, rfl⟩)
                          case measure => simp [intOf]; omega
                    · go_wp2_with fail
                      go_meet
                      exact ⟨now + q, added, L1, D1, _, _, _, rfl, HS5.out, HR1.out, by omega, by omega⟩
        case rest =>
          have HC := Lib.hid hcut
          clear hcut
          go_wp2_with fail
          go_roundg (gk - 1)
          case measure => have := HJ.out; omega
          case rel => first
            | exact ⟨j + 1, by have := HJ.out; omega, by omega, by go_num, HC.out⟩
            | ((repeat apply Exists.intro); exact ⟨⟨j + 1, by have := HJ.out; omega, by omega, by go_num, HC.out⟩, rfl⟩)
      · go_wp2_with fail
        go_ret
        exact ⟨rfl, HS.out.2.2.2.2⟩
    · go_wp2_with fail
      go_ret
      exact ⟨rfl, HS.out.2.2.2.2⟩
end Go.Proofs.Ytgmeebpgncenmaa
