/- addr.gap: the longest row of groups of 0. -/
import Derived.Test.YtndjijadalkidaaDoorSl
import Derived.ChangeKeysEq
namespace Go.Proofs.YtndjijadalkidaaDoor
open Go.Proofs Go.Shelf Go.RowKit
/-- How many groups of 0 stand from a place on. -/
def zr (us : List Nat) : Nat → Nat → Nat
  | _, 0 => 0
  | i, n + 1 => if us[i]? = some 0 then zr us (i + 1) n + 1 else 0
theorem zr_is (us : List Nat) : ∀ (d i n : Nat), d ≤ n → (∀ t, t < d → us[i + t]? = some 0) → us[i + d]? ≠ some 0 → zr us i n = d
  | 0, i, 0, _, _, _ => rfl
  | 0, i, n + 1, _, _, h => by
    unfold zr
    exact if_neg h
  | d + 1, i, 0, h, _, _ => by omega
  | d + 1, i, n + 1, h, hz, hn => by
    unfold zr
    have h0 : us[i]? = some 0 := hz 0 (by omega)
    rw [if_pos h0, zr_is us d (i + 1) n (by omega) (fun t ht => by rw [show i + 1 + t = i + (t + 1) by omega]; exact hz (t + 1) (by omega)) (by rw [show i + 1 + d = i + (d + 1) by omega]; exact hn)]
/-- The longest one among those that begin below a place. -/
def gapS (us : List Nat) : Nat → Nat × Nat
  | 0 => (0, 0)
  | i + 1 => if (gapS us i).2 - (gapS us i).1 < zr us i 8 then (i, i + zr us i 8) else gapS us i
def gapP (us : List Nat) : Nat × Nat := if us = List.replicate 8 0 then (0, 8) else if (gapS us 8).2 - (gapS us 8).1 < 2 then (0, 0) else gapS us 8
theorem zr_le (us : List Nat) (h8 : us.length = 8) : ∀ n i, i ≤ 8 → i + zr us i n ≤ 8
  | 0, i, h => by unfold zr; omega
  | n + 1, i, h => by
    unfold zr
    split
    · rename_i h2
      have : i < us.length := (List.getElem?_eq_some_iff.1 h2).1
      have := zr_le us h8 n (i + 1) (by omega)
      omega
    · omega
theorem gapS_le (us : List Nat) (h8 : us.length = 8) : ∀ i, i ≤ 8 → (gapS us i).1 ≤ (gapS us i).2 ∧ (gapS us i).2 ≤ 8
  | 0, _ => by unfold gapS; omega
  | i + 1, h => by
    have h1 := gapS_le us h8 i (by omega)
    have h2 := zr_le us h8 8 i (by omega)
    unfold gapS
    split
    · simp only; omega
    · exact h1
theorem gapP_le (us : List Nat) (h8 : us.length = 8) : (gapP us).1 ≤ (gapP us).2 ∧ (gapP us).2 ≤ 8 := by
  unfold gapP
  split
  · simp
  · split
    · simp
    · exact gapS_le us h8 8 (Nat.le_refl _)
def g16v (u : Nat) : Value := .int .u16 (u : Int)
set_option maxRecDepth 100000 in
theorem eql_gr (us : List Nat) (h8 : us.length = 8) (W : World) : (binOp .eql 68 (.agg (us.map g16v).toArray) (.agg #[.int .u16 0, .int .u16 0, .int .u16 0, .int .u16 0, .int .u16 0, .int .u16 0, .int .u16 0, .int .u16 0])).run Tryd.prog W = .ok (.bool (decide (us = List.replicate 8 0))) W := by
  match us, h8 with
  | [a, b, c, d, e, f, g, h], _ =>
    have u6 := Tryd.underlying66
    have a6 := Tryd.isAgg66
    have z6 := Tryd.sizeOf66
    have hc : Tryd.prog.cellsOf 66 = 1 := by kernel_rfl
    obtain ⟨i, hi⟩ : ∃ i, Tryd.prog.info? 66 = some i := by
      cases hh : Tryd.prog.info? 66 with
      | none => exact absurd hh (by have : (Tryd.prog.info? 66).isSome = true := by kernel_rfl
                                    intro h2; rw [h2] at this; cases this)
      | some i => exact ⟨i, rfl⟩
    rw [run_eql_struct, show (10000 : Nat) = 9999 + 1 from rfl, run_equalIn_array W 9999 _ _ Tryd.underlying68 hi, hc]
    have er : List.range 8 = [0, 1, 2, 3, 4, 5, 6, 7] := rfl
    rw [er]
    simp only [Op.eqItems, g16v, List.map_cons, List.map_nil]
    clear hi hc er
    go_simp
    repeat' split
    all_goals simp_all
section
variable {w : World}
set_option maxHeartbeats 3200000 in
set_option maxRecDepth 100000 in
theorem gap_ (us : List Nat) (h8 : us.length = 8) (hu16 : ∀ u ∈ us, u < 65536) : Calls Tryd.prog 52 #[.agg (us.map g16v).toArray] w fun e w' => e = .returned (.tuple #[.int .i64 ((gapP us).1 : Int), .int .i64 ((gapP us).2 : Int)]) ∧ Fr N0 w w' := by
  have HE := Lib.hid (eql_gr us h8)
  obtain ⟨cs, hcs⟩ : ∃ cs, cs = (us.map g16v).toArray := ⟨_, rfl⟩
  have HC := Lib.hid hcs
  have hsz : cs.size = 8 := by rw [hcs]; simp [h8]
  have HS := Lib.hid (show (Tryd.prog.info? 68).map (·.size) = some cs.size by rw [hsz]; kernel_rfl)
  have H8 := Lib.hid h8
  have HU := Lib.hid hu16
  rw [← hcs] at HE ⊢
  clear hcs hsz h8 hu16
  have HB := Lib.hid (Blk.new w 68 cs)
  have HF := Lib.hid (Fr.alloc (Fr.refl N0 w) (.cells cs 68))
  by_cases hall : us = List.replicate 8 0
  · have hE : ∀ W, (binOp .eql 68 (.agg cs) (.agg #[.int .u16 0, .int .u16 0, .int .u16 0, .int .u16 0, .int .u16 0, .int .u16 0, .int .u16 0, .int .u16 0])).run Tryd.prog W = .ok (.bool true) W := fun W => by rw [HE.out W, decide_eq_true hall]
    have hG : ∀ W X Y, (eqGuard .eql 68 X Y (.agg cs) (.agg #[.int .u16 0, .int .u16 0, .int .u16 0, .int .u16 0, .int .u16 0, .int .u16 0, .int .u16 0, .int .u16 0])).run Tryd.prog W = .ok () W := fun W X Y => run_eqGuard_agg W .eql _ X Y _ _ (by kernel_rfl)
    have e : gapP us = (0, 8) := by unfold gapP; rw [if_pos hall]
    rw [e]
    clear hall e
    go_enter Tryd.func52, Tryd.ntmps52
    go_wp2_with (first
      | (refine wpList_load_row rfl 68 (.tmp 1) rfl w.heap.size rfl 68 _ (0, 0) _ HB.out Tryd.underlying68 rfl HS.out ?_))
    go_ret2
    exact ⟨rfl, HF.out⟩
  · have hE : ∀ W, (binOp .eql 68 (.agg cs) (.agg #[.int .u16 0, .int .u16 0, .int .u16 0, .int .u16 0, .int .u16 0, .int .u16 0, .int .u16 0, .int .u16 0])).run Tryd.prog W = .ok (.bool false) W := fun W => by rw [HE.out W, decide_eq_false hall]
    have hG : ∀ W X Y, (eqGuard .eql 68 X Y (.agg cs) (.agg #[.int .u16 0, .int .u16 0, .int .u16 0, .int .u16 0, .int .u16 0, .int .u16 0, .int .u16 0, .int .u16 0])).run Tryd.prog W = .ok () W := fun W X Y => run_eqGuard_agg W .eql _ X Y _ _ (by kernel_rfl)
    have e : gapP us = if (gapS us 8).2 - (gapS us 8).1 < 2 then (0, 0) else gapS us 8 := by unfold gapP; rw [if_neg hall]
    rw [e]
    have HL := Lib.hid (gapS_le us H8.out)
    have HZ := Lib.hid (zr_le us H8.out)
    have HX : Hid (∀ (k u : Nat), us[k]? = some u → (w.alloc (.cells cs 68)).cell? ⟨w.heap.size, k, none⟩ = some (.int .u16 (u : Int))) := Lib.hid fun k u hk => by
      have := HB.out.cell k
      rw [HC.out, List.getElem?_toArray, List.getElem?_map, hk] at this
      rw [HC.out]
      exact this
    clear hall e
    go_enter Tryd.func52, Tryd.ntmps52
    go_wp2_with (first
      | (refine wpList_load_row rfl 68 (.tmp 1) rfl w.heap.size rfl 68 _ (0, 0) _ HB.out Tryd.underlying68 rfl HS.out ?_))
    clear hE hG HB HE HS HC
    generalize w.alloc _ = w1 at *
    generalize w.heap.size = g at *
    go_loop [4, 5, 11] (fun a b i => ∃ n : Nat, n ≤ 8 ∧ i = .int .i64 (n : Int) ∧ a = .int .i64 ((gapS us n).1 : Int) ∧ b = .int .i64 ((gapS us n).2 : Int)) (fun _ _ i => 9 - (intOf i).toNat)
    case atStart => exact ⟨0, by omega, rfl, rfl, rfl⟩
    case round =>
      obtain ⟨n, hn, rfl, rfl, rfl⟩ := hrel
      have hle := HL.out n hn
      by_cases hn8 : n < 8
      · have hnI : (n : Int) < 8 := by omega
        go_wp2_with fail
        go_loop [7] (fun k => ∃ d : Nat, n + d ≤ 8 ∧ k = .int .i64 ((n : Int) + (d : Int)) ∧ Hid (∀ t, t < d → us[n + t]? = some 0)) (fun k => 9 - (intOf k).toNat)
        case atStart => exact ⟨0, by omega, by simp, Lib.hid fun t ht => by omega⟩
        case round =>
          obtain ⟨d, hd, rfl, hz⟩ := hrel
          by_cases h8 : n + d < 8
          · have hdI : (n : Int) + (d : Int) < 8 := by omega
            obtain ⟨u, hu⟩ : ∃ u, us[n + d]? = some u := ⟨_, List.getElem?_eq_getElem (by rw [H8.out]; exact h8)⟩
            have hx := HX.out _ _ hu
            have HU2 := Lib.hid hu
            clear hu
            by_cases h0 : u = 0
            · subst h0
              go_wp2_with fail
              refine ⟨⟨d + 1, by omega, by go_num, Lib.hid fun t ht => ?_⟩, by simp [RowKit.intOf]; omega⟩
              by_cases e : t = d
              · rw [e]; exact HU2.out
              · exact hz.out t (by omega)
            · have h0I : ((u : Int) == 0) = false := by simp; omega
              have hzr : zr us n 8 = d := zr_is us d n 8 (by omega) hz.out (by rw [HU2.out]; simp [h0])
              have HGS := Lib.hid (show gapS us (n + 1) = if (gapS us n).2 - (gapS us n).1 < d then (n, n + d) else gapS us n by rw [← hzr]; rfl)
              clear hzr h0
              go_wp2_with fail
              all_goals refine ⟨⟨n + 1, by omega, by go_num, ?_, ?_⟩, by simp [RowKit.intOf]; omega⟩
              all_goals rw [HGS.out]
              all_goals first | (rw [if_pos (by omega)]; done) | (rw [if_pos (by omega)]; simp; done) | (rw [if_neg (by omega)])
          · obtain hde : n + d = 8 := by omega
            have hzr : zr us n 8 = d := zr_is us d n 8 (by omega) hz.out (by rw [List.getElem?_eq_none (by have := H8.out; omega)]; simp)
            have HGS := Lib.hid (show gapS us (n + 1) = if (gapS us n).2 - (gapS us n).1 < d then (n, n + d) else gapS us n by rw [← hzr]; rfl)
            clear hzr
            go_wp2_with fail
            all_goals refine ⟨⟨n + 1, by omega, by go_num, ?_, ?_⟩, by simp [RowKit.intOf]; omega⟩
            all_goals rw [HGS.out]
            all_goals first | (rw [if_pos (by omega)]; done) | (rw [if_pos (by omega)]; simp; done) | (rw [if_neg (by omega)])
      · obtain rfl : n = 8 := by omega
        go_wp2_with fail
        all_goals go_ret2
        all_goals exact ⟨rfl, HF.out⟩
end
end Go.Proofs.YtndjijadalkidaaDoor
