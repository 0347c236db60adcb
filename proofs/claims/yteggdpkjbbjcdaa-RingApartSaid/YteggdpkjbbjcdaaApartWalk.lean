/- RingApart, walked. -/
import Derived.Test.YteggdpkjbbjcdaaAwake
import Derived.Test.YteggdpkjbbjcdaaRingLst
import Derived.Test.YteggdpkjbbjcdaaSteps
import Derived.Test.YteggdpkjbbjcdaaRef
import Derived.Deep.DeepCutAuto
import Derived.Deep.LoopGhost
import Derived.Deep.CutBlock
namespace Go.Proofs.Yteggdpkjbbjcdaa
open Go.RowKit

/-- The number N of the t-th step that came in. -/
def StepN (w : World) (A : Option Addr) (t : Nat) (n : Int) : Prop := ∃ b off, A = some ⟨b, off, none⟩ ∧ w.cell? ⟨b, off + t * 3 + 1, none⟩ = some (.int .i64 n)

def lst (lb : Nat) : Value := .slice (some ⟨lb, 0, none⟩) 2 2

/-- The lists that were put in, as they stand now. -/
def Lists (w : World) (A : Option Addr) (wr : World) (bl : List Nat) : Prop :=
  ∀ t, t < bl.length → ∃ lb nt, bl[t]? = some lb ∧ StepN w A t nt ∧ Blk wr lb 3 #[.int .i64 (-(t : Int)), .int .i64 nt] ∧ w.heap.size ≤ lb

theorem Lists.fr {w wr w' : World} {A : Option Addr} {bl : List Nat} {S : Nat → Prop} (h : Lists w A wr bl) (k : Fr S wr w') (hS : ∀ i cs, Blk wr i 3 cs → ¬ S i) : Lists w A w' bl := by
  intro t ht
  obtain ⟨lb, nt, h1, h2, h3, h4⟩ := h t ht
  exact ⟨lb, nt, h1, h2, h3.fr k (hS _ _ h3), h4⟩

theorem Lists.add {w wr : World} {A : Option Addr} {bl : List Nat} {lb : Nat} {nt : Int} (h : Lists w A wr bl) (h2 : StepN w A bl.length nt) (h3 : Blk wr lb 3 #[.int .i64 (-(bl.length : Int)), .int .i64 nt]) (h4 : w.heap.size ≤ lb) : Lists w A wr (bl ++ [lb]) := by
  intro t ht
  simp only [List.length_append, List.length_cons, List.length_nil] at ht
  rcases Nat.lt_or_ge t bl.length with hl | hl
  · obtain ⟨lb', nt', g1, g2, g3, g4⟩ := h t hl
    exact ⟨lb', nt', by rw [List.getElem?_append_left hl]; exact g1, g2, g3, g4⟩
  · obtain rfl : t = bl.length := by omega
    exact ⟨lb, nt, by simp, h2, h3, h4⟩

theorem RingIs.blk_ne {w : World} {b g T E m o i : Nat} {xs : List Value} {t : TypeId} {cs : Array Value} (h : RingIs w b g T E m o xs) (hi : Blk w i t cs) (hT : t ≠ T) (hE : t ≠ E) : ¬ (i = b ∨ i = g) := by
  obtain ⟨_, _, _, cs', hB, hG, _⟩ := h
  rintro (rfl | rfl)
  · exact Blk.ne_ hi hB hT rfl
  · exact Blk.ne_ hi hG hE rfl
theorem RingIs.drewN {w : World} {b g T E m o : Nat} {xs : List Value} (h : RingIs w b g T E m o xs) (n : Nat) : RingIs (w.drewN n) b g T E m o xs := h

set_option maxRecDepth 100000 in
set_option maxHeartbeats 6400000 in
theorem apart_any (w : World) (A : Option Addr) (len cap : Nat) (hrd : Rd Try.prog w 22 [.slice A len cap]) (_ : len * Try.prog.bytesOf 29 ≤ 140737488351232) (D : Option Addr) (ld cd : Nat) (hrd2 : Rd Try.prog w 22 [.slice D ld cd]) (_ : ld * Try.prog.bytesOf 29 ≤ 140737488351232) :
    Calls Try.prog 6 #[.slice A len cap, .slice D ld cd] w fun e w' => e = .returned (.bool true) ∧ Below w.heap.size w w' := by
  obtain ⟨hst, hlen⟩ := steps_in hrd
  obtain ⟨hst2, hlen2⟩ := steps_in hrd2
  have HST := Lib.hid hst
  have HST2 := Lib.hid hst2
  clear hst hrd hst2 hrd2
  go_enter Try.func6, Try.ntmps6
  go_wp2_with fail
  refine (awake_any _).mono ?_
  rintro e w1 ⟨rfl, hB1⟩
  have H1 := Lib.hid hB1
  clear hB1
  go_wp2_with fail
  refine (new_lst 4 (by omega) _).mono ?_
  rintro e w2 ⟨b, g, rfl, hR, hb1, hg1, hB2⟩
  have H2 := Lib.hid (H1.out.trans (hB2.mono H1.out.size))
  have hz1 : w.heap.size ≤ w1.heap.size := H1.out.size
  have hlt2 := hR.lt
  have hz2 : w1.heap.size ≤ w2.heap.size := by omega
  clear hB2
  go_wp2_with fail
  refine (new_lst 4 (by omega) _).mono ?_
  rintro e w3 ⟨b', g', rfl, hR', hb2, hg2, hB3⟩
  have H3 := Lib.hid (H2.out.trans (hB3.mono H2.out.size))
  have hR3 := hR.fr (Fr.of_below (S := fun _ => False) hB3) (fun h => h) (fun h => h)
  have hne : b ≠ b' ∧ b ≠ g' ∧ g ≠ b' ∧ g ≠ g' := by omega
  have hbw : w.heap.size ≤ b ∧ w.heap.size ≤ g ∧ w.heap.size ≤ b' ∧ w.heap.size ≤ g' := by omega
  have hS1 : ∀ i, i = b ∨ i = g → w.heap.size ≤ i := by omega
  have hS2 : ∀ i, i = b' ∨ i = g' → w.heap.size ≤ i := by omega
  clear hB3 hR hlt2 hb1 hg1 hb2 hg2
  rw [show (2 : Nat) ^ 4 = 16 from rfl] at hR3 hR'
  go_upto_block 0 with fail
  go_cut [8, 9] (fun v8 _ wx => ∃ (bl : List Nat), bl.length ≤ 16 ∧ bl.length ≤ len ∧ v8 = .int .i64 bl.length ∧ RingIs wx b g 77 49 16 0 (bl.map lst) ∧ Lists w A wx bl ∧ Below w.heap.size w wx)
  case first =>
    go_wp2_with fail
    go_loopg [8, 9] 16 (fun gk v8 i wr => ∃ (bl : List Nat) (o : Nat) (ys : List Value), bl.length + gk = 16 ∧ bl.length ≤ len ∧ v8 = .int .i64 bl.length ∧ i = .int .i64 bl.length ∧ RingIs wr b g 77 49 16 0 (bl.map lst) ∧ RingIs wr b' g' 77 49 16 o ys ∧ o + ys.length ≤ bl.length ∧ Lists w A wr bl ∧ Below w.heap.size w wr)
    case atStart => exact ⟨[], 0, [], rfl, Nat.zero_le _, rfl, rfl, hR3, hR', by simp, fun t ht => by simp at ht, H3.out⟩
    case round =>
      obtain ⟨bl, o, ys, hj, hjl, rfl, rfl, hRr, hRr', hoy, hL, hBr⟩ := hrel
      have HJ := Lib.hid hj
      have HBr := Lib.hid hBr
      have hj16 : bl.length ≤ 16 := by omega
      clear hj hBr
      have HR := Lib.hid hRr
      have HR' := Lib.hid hRr'
      have HL := Lib.hid hL
      clear hRr hRr' hL
      by_cases hlt : bl.length < len
      · by_cases hlt2 : bl.length < 16
        · obtain ⟨sb, so, rfl, hsb, hi⟩ := HST.out (by omega)
          obtain ⟨x, n, s, ⟨hx1, hx2, hn1, hn2, hs⟩, c0, c1, c2⟩ := hi bl.length hlt
          have HSN := Lib.hid (show StepN w (some ⟨sb, so, none⟩) bl.length n from ⟨sb, so, rfl, c1⟩)
          have c1' := (HBr.out.cell (p := ⟨sb, so + bl.length * 3 + 1, none⟩) hsb).trans c1
          clear c0 c1 c2 hi
          generalize hjj : bl.length = j at *
          have HJJ := Lib.hid hjj
          clear hjj
          go_wp2_with fail
          have hsz := HBr.out.size
          have P1 := Lib.hid (push_lst b g 16 0 (bl.map lst) (some ⟨wr.heap.size, 0, none⟩) 2 2 (wr.alloc (.cells #[.int .i64 (j : Int), .int .i64 n] 3)) (HR.out.fr ((Fr.refl (fun _ => False) wr).alloc _) (fun h => h) (fun h => h)) (by rw [List.length_map, HJJ.out]; omega))
          refine P1.out.mono ?_
          rintro e w4 ⟨rfl, hR4, hF4⟩
          have hbk := Blk.new wr 3 #[.int .i64 (j : Int), .int .i64 n]
          rw [List.length_map, HJJ.out, if_pos hlt2] at hR4
          have hX4 := hbk.fr hF4 (RingIs.blk_ne (HR.out.fr ((Fr.refl (fun _ => False) wr).alloc _) (fun h => h) (fun h => h)) hbk (by decide) (by decide))
          have hL4 := (HL.out.fr ((Fr.refl (fun _ => False) wr).alloc (.cells #[.int .i64 (j : Int), .int .i64 n] 3)) (fun _ _ _ h => h)).fr hF4 (fun i cs hi => RingIs.blk_ne (HR.out.fr ((Fr.refl (fun _ => False) wr).alloc _) (fun h => h) (fun h => h)) hi (by decide) (by decide))
          have hR4' := (HR'.out.fr ((Fr.refl (fun _ => False) wr).alloc (.cells #[.int .i64 (j : Int), .int .i64 n] 3)) (fun h => h) (fun h => h)).fr hF4 (show ¬ (b' = b ∨ b' = g) by omega) (show ¬ (g' = b ∨ g' = g) by omega)
          have hB4 := below_fr (below_fr (S := fun _ => False) HBr.out ((Fr.refl _ wr).alloc (.cells #[.int .i64 (j : Int), .int .i64 n] 3)) HBr.out.size (fun _ h => h.elim)) hF4 (by simp; omega) hS1
          have hlb : w.heap.size ≤ wr.heap.size := hsz
          have hlw : ∀ t, t < bl.length → bl[t]? ≠ some wr.heap.size := by
            intro t ht he
            obtain ⟨lb, nt, h1, _, h3, _⟩ := HL.out t ht
            rw [h1] at he
            injection he with he
            have := h3.lt
            omega
          generalize hlb' : wr.heap.size = lb at *
          have y0 : w4.cell? ⟨lb, 0, none⟩ = some (.int .i64 (j : Int)) := hX4.cell 0
          have fz := hX4.frozen 0
          clear P1 hbk hlb' hF4
          have HX4 := Lib.hid hX4
          have HL4 := Lib.hid hL4
          have HR4 := Lib.hid hR4
          have HR4' := Lib.hid hR4'
          have HB4 := Lib.hid hB4
          have HLW := Lib.hid hlw
          clear hX4 hL4 hR4 hR4' hB4 hlw
          have hF5 := fr_one w4 lb 0 (.int .i64 (-(j : Int)))
          have hj := HJ.out
          have hjj := HJJ.out
          have hnb := RingIs.blk_ne HR4.out HX4.out (by decide) (by decide)
          have hnb' := RingIs.blk_ne HR4'.out HX4.out (by decide) (by decide)
          have HX5 := Lib.hid (HX4.out.set_ 0 (.int .i64 (-(j : Int))))
          have HR5 := Lib.hid (HR4.out.fr hF5 (show ¬ b = lb by omega) (show ¬ g = lb by omega))
          have HR5' := Lib.hid (HR4'.out.fr hF5 (show ¬ b' = lb by omega) (show ¬ g' = lb by omega))
          have HB5 := Lib.hid (below_fr HB4.out hF5 HB4.out.size (fun i h => by omega))
          have HL5 := Lib.hid (show Lists w (some ⟨sb, so, none⟩) (w4.setCell ⟨lb, 0, none⟩ (.int .i64 (-(j : Int)))) bl from by
            intro t ht
            obtain ⟨lb', nt', h1, h2, h3, h4⟩ := HL4.out t ht
            have hne' : lb' ≠ lb := fun h => HLW.out t ht (by rw [h1, h])
            exact ⟨lb', nt', h1, h2, h3.fr hF5 hne', h4⟩)
          clear hF5 hj hjj hnb hnb'
          have CL := Lib.hid (show ∀ (o' : Nat) (ys' : List Value) (w' : World), RingIs w' b' g' 77 49 16 o' ys' → o' + ys'.length ≤ j + 1 → Fr (fun i => i = b' ∨ i = g') (w4.setCell ⟨lb, 0, none⟩ (.int .i64 (-(j : Int)))) w' →
              ∃ (bl : List Nat) (o : Nat) (ys : List Value), bl.length + (gk - 1) = 16 ∧ bl.length ≤ len ∧ Value.int .i64 ((j : Int) + 1) = .int .i64 bl.length ∧ Value.int .i64 ((j : Int) + 1) = .int .i64 bl.length ∧ RingIs w' b g 77 49 16 0 (bl.map lst) ∧ RingIs w' b' g' 77 49 16 o ys ∧ o + ys.length ≤ bl.length ∧ Lists w (some ⟨sb, so, none⟩) w' bl ∧ Below w.heap.size w w' from by
            intro o' ys' w' hR6 hoy6 hF6
            have hj := HJ.out
            have hjj := HJJ.out
            refine ⟨bl ++ [lb], o', ys', by simp; omega, by simp; omega, by simp; omega, by simp; omega, ?_, hR6, by simp; omega, ?_, below_fr HB5.out hF6 HB5.out.size hS2⟩
            · rw [List.map_append]
              exact HR5.out.fr hF6 (show ¬ (b = b' ∨ b = g') by omega) (show ¬ (g = b' ∨ g = g') by omega)
            · refine Lists.fr (Lists.add HL5.out (by rw [hjj]; exact HSN.out) ?_ hlb) hF6 (fun i cs hi => RingIs.blk_ne HR5'.out hi (by decide) (by decide))
              rw [hjj]
              simpa using HX5.out)
          by_cases hlt3 : j < ld
          · obtain ⟨tb, ta, rfl, htb, hi2⟩ := HST2.out (by omega)
            obtain ⟨x', n', s', ⟨hx1', hx2', hn1', hn2', hs'⟩, d0, d1, d2⟩ := hi2 j hlt3
            have e1 := (HB5.out.cell (p := ⟨tb, ta + j * 3 + 1, none⟩) htb).trans d1
            have htb5 := Nat.lt_of_lt_of_le htb HB5.out.size
            have hoy' := HJJ.out
            go_wp2_with fail
            refine (push_lst b' g' 16 o ys _ 1 1 _ (HR5'.out.fr ((Fr.refl (fun _ => False) _).alloc _) (fun h => h) (fun h => h)) (by omega)).mono ?_
            rintro e w6 ⟨rfl, hR6, hF6⟩
            have hF6' := Lib.hid (((Fr.refl (fun i => i = b' ∨ i = g') (w4.setCell ⟨lb, 0, none⟩ (.int .i64 (-(j : Int))))).alloc (.cells #[.int .i64 n'] 3)).trans hF6)
            clear hF6
            have f0 := (hF6'.out.cell (p := ⟨tb, ta + j * 3, none⟩) htb5 (show ¬ (tb = b' ∨ tb = g') by omega)).trans ((HB5.out.cell (p := ⟨tb, ta + j * 3, none⟩) htb).trans d0)
            have f1 := (hF6'.out.cell (p := ⟨tb, ta + j * 3 + 1, none⟩) htb5 (show ¬ (tb = b' ∨ tb = g') by omega)).trans e1
            have f2 := (hF6'.out.cell (p := ⟨tb, ta + j * 3 + 2, none⟩) htb5 (show ¬ (tb = b' ∨ tb = g') by omega)).trans ((HB5.out.cell (p := ⟨tb, ta + j * 3 + 2, none⟩) htb).trans d2)
            obtain ⟨ys', hys, hoy2, hR6'⟩ : ∃ ys' : List Value, ys' = ys' ∧ o + ys'.length ≤ j + 1 ∧ RingIs w6 b' g' 77 49 16 o ys' := by
              split at hR6
              · exact ⟨_, rfl, by simp; omega, hR6⟩
              · exact ⟨_, rfl, by omega, hR6⟩
            clear hR6 hys
            clear d0 d1 d2 hi2
            go_wp2_with fail
            refine (kind_fr x' n' s' _).mono ?_
            rintro e w7 ⟨rfl, hF7⟩
            have hR7 := hR6'.fr hF7 (fun h => h) (fun h => h)
            have hF7' := Lib.hid (hF6'.out.step hF7 (fun _ h => h.elim))
            clear hF7 hR6'
            by_cases hx2 : x' % 4 = 2
            · have hxc : (x' % 4 == 2) = true := by simp [hx2]
              clear hx2
              go_wp2_with fail
              cases ys' with
              | nil =>
                refine (pop_none_lst b' g' 16 o _ hR7 (by omega)).mono ?_
                rintro e w8 ⟨rfl, rfl⟩
                go_wp2_with fail
                go_roundg (gk - 1)
                case measure => have := HJ.out; omega
                case rel => exact CL.out o [] _ hR7 hoy2 hF7'.out
              | cons v ys' =>
                refine (pop_some_lst b' g' 16 o v ys' _ hR7 (by omega)).mono ?_
                rintro e w8 ⟨rfl, hR8, hF8⟩
                go_wp2_with fail
                go_roundg (gk - 1)
                case measure => have := HJ.out; omega
                case rel => exact CL.out (o + 1) ys' _ hR8 (by simp at hoy2; omega) (hF7'.out.trans hF8)
            · have hxc : (x' % 4 == 2) = false := by simp [hx2]
              clear hx2
              go_wp2_with fail
              go_roundg (gk - 1)
              case measure => have := HJ.out; omega
              case rel => exact CL.out o ys' _ hR7 hoy2 hF7'.out
          · have hoy' := HJJ.out
            go_wp2_with fail
            go_roundg (gk - 1)
            case measure => have := HJ.out; omega
            case rel => exact CL.out o ys _ HR5'.out (by omega) (Fr.refl _ _)
        · go_wp2_with fail
          go_meet
          exact ⟨bl, by omega, hjl, rfl, HR.out, HL.out, HBr.out⟩
      · go_wp2_with fail
        go_meet
        exact ⟨bl, by omega, hjl, rfl, HR.out, HL.out, HBr.out⟩
  case rest =>
    obtain ⟨bl, hbl, hbl2, rfl, hRc, hLc, hBc⟩ := hcut
    clear hR3 hR'
    go_wp2_with fail
    go_loopw [11] (fun i wr => ∃ t : Nat, t ≤ bl.length ∧ i = .int .i64 t ∧ RingIs wr b g 77 49 16 t ((bl.drop t).map lst) ∧ Lists w A wr bl ∧ Below w.heap.size w wr) (fun i _ => bl.length - (intOf i).toNat)
    case atStart => exact ⟨0, Nat.zero_le _, rfl, hRc, hLc, hBc⟩
    case round =>
      obtain ⟨t, ht, rfl, hRr, hL, hBr⟩ := hrel
      have HBr := Lib.hid hBr
      clear hBr hRc hLc hBc
      by_cases hlt : t < bl.length
      · obtain ⟨lb, nt, h1, ⟨sb, so, rfl, hc⟩, hK, hlb⟩ := hL t hlt
        have hsb : sb < w.heap.size := by
          rcases Nat.lt_or_ge sb w.heap.size with h | h
          · exact h
          · exfalso
            have : w.heap[sb]? = none := Array.getElem?_eq_none h
            simp [World.cell?, this] at hc
        have hd : (bl.drop t).map lst = .slice (some ⟨lb, 0, none⟩) 2 2 :: (bl.drop (t + 1)).map lst := by
          have h2 : bl[t] = lb := by
            rw [List.getElem?_eq_getElem hlt] at h1
            injection h1
          rw [List.drop_eq_getElem_cons hlt, h2]
          rfl
        rw [hd] at hRr
        have P1 := Lib.hid (pop_some_lst b g 16 t (.slice (some ⟨lb, 0, none⟩) 2 2) ((bl.drop (t + 1)).map lst) wr hRr (by simp; omega))
        have hnb := RingIs.blk_ne hRr hK (by decide) (by decide)
        have HL := Lib.hid (show ∀ w', Fr (fun i => i = b ∨ i = g) wr w' → Lists w (some ⟨sb, so, none⟩) w' bl from fun w' hF => hL.fr hF (fun i cs hi => RingIs.blk_ne hRr hi (by decide) (by decide)))
        clear hL h1 hd hRr
        go_wp2_with fail
        refine P1.out.mono ?_
        rintro e w4 ⟨rfl, hR4, hF4⟩
        have hK4 := hK.fr hF4 hnb
        have k0 : w4.cell? ⟨lb, 0, none⟩ = some (.int .i64 (-(t : Int))) := hK4.cell 0
        have k1 : w4.cell? ⟨lb, 1, none⟩ = some (.int .i64 nt) := hK4.cell 1
        have hB4 := below_fr HBr.out hF4 HBr.out.size hS1
        have ks := (hB4.cell (p := ⟨sb, so + t * 3 + 1, none⟩) hsb).trans hc
        have HB4 := Lib.hid hB4
        have HL4 := Lib.hid (HL.out w4 hF4)
        have HR4 := Lib.hid hR4
        have hx0 : (0 : Int) ≤ t := by omega
        have hx1 : (t : Int) < len := by omega
        clear hB4 hF4 hK4 hK hnb hc hR4
        go_wp2_with fail
        go_quiet (fail)
        go_wp2_with fail
        go_roundw
        case rel => exact ⟨t + 1, by omega, by go_num, HR4.out, HL4.out, ⟨HB4.out.os, HB4.out.tape, HB4.out.output, HB4.out.size, HB4.out.block⟩⟩
        case measure => simp [intOf]; omega
      · have hR9 : RingIs wr b g 77 49 16 t [] := by
          have h := hRr
          rw [List.drop_eq_nil_of_le (by omega)] at h
          exact h
        clear hRr hL
        go_wp2_with fail
        refine (len_lst b g 16 t [] wr hR9 (by simp; omega)).mono ?_
        rintro e w4 ⟨rfl, k4, rfl⟩
        go_wp2_with fail
        go_ret
        exact ⟨rfl, ⟨HBr.out.os, HBr.out.tape, HBr.out.output, HBr.out.size, HBr.out.block⟩⟩
end Go.Proofs.Yteggdpkjbbjcdaa
