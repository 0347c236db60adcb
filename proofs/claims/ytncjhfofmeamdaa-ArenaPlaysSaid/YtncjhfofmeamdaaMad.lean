/- made. -/
import Derived.Test.YtncjhfofmeamdaaAny
import Derived.Deep.LoopGhost
import Derived.BigRegion
import Derived.Deep.RegionHeld3
namespace Go.Proofs.Ytncjhfofmeamdaa
open Go.RowKit

theorem sortL_mem {l : List Nat} {x : Nat} : x ∈ sortL l ↔ x ∈ l := (List.mergeSort_perm l _).mem_iff
theorem sortL_len (l : List Nat) : (sortL l).length = l.length := by unfold sortL; exact List.length_mergeSort _
theorem plc_bd (g : Bool) (x : Int) (hx1 : -9223372036854775808 ≤ x) (hx2 : x ≤ 9223372036854775807) (l : List Nat) (hl : ∀ y ∈ l, y ≤ 65536) : -9223372036854775808 ≤ plc g x l ∧ plc g x l ≤ 9223372036854775807 := by
  unfold plc
  split
  · exact ⟨hx1, hx2⟩
  · split
    · omega
    · rw [List.getD_eq_getElem?_getD]
      rcases h : l[(pk x (l.length + 1)).toNat]? with _ | y
      · simp
      · have := hl y (List.mem_of_getElem? h)
        simp; omega
theorem TOk.le16 {n : Nat} {T : List (Nat × Nat)} (h : TOk n T) (hn : n ≤ 16) {x : Nat} (hx : x ∈ T.map (·.1)) : x ≤ 65536 := by
  obtain ⟨p, hp, rfl⟩ := List.mem_map.1 hx
  have := (h.dy p hp).2.2
  have := p2 p.2
  have := pow16 hn
  omega
theorem Liv.len16 {w : World} {S : Nat → Prop} {b n : Nat} {T : List (Nat × Nat)} (h : Liv w S b n T) : (sortL (T.map (·.1))).length ≤ 65536 := by
  have h1 := h.2.1.length_le
  have h2 := pow16 h.1
  rw [sortL_len, List.length_map]
  omega
theorem Liv.mem16 {w : World} {S : Nat → Prop} {b n : Nat} {T : List (Nat × Nat)} (h : Liv w S b n T) : ∀ y ∈ sortL (T.map (·.1)), y ≤ 65536 := fun _ hy => h.2.1.le16 h.1 (sortL_mem.1 hy)

/-- An arena made. -/
def MadeE (w : World) (n : Nat) (e : Ending) (w' : World) : Prop := ∃ b T, e = .returned (.pointer (some ⟨b, 0, none⟩)) ∧ w.heap.size ≤ b ∧ Liv w' (fun i => w.heap.size ≤ i) b n T ∧ Fr (fun _ => False) w w'
set_option maxRecDepth 100000 in
set_option maxHeartbeats 3200000 in
theorem made_ok (w : World) (n : Nat) (hn : n ≤ 16) (A : Option Addr) (len cap : Nat) (hst : StepsIn w A len) (hlen : len ≤ 9223372036854775807) :
    Calls Try.prog 26 #[.int .i64 (n : Int), .slice A len cap] w (MadeE w n) := by
  have HN := Lib.hid (new_liv w n hn)
  have HST := Lib.hid hst
  clear hst
  go_enter Try.func26, Try.ntmps26
  go_wp2_with fail
  refine HN.out.mono ?_
  rintro e w1 ⟨rfl, hL, hF⟩
  obtain ⟨b, hb⟩ : ∃ b, b = w.heap.size + 2 := ⟨_, rfl⟩
  rw [← hb] at hL ⊢
  have hbs : w.heap.size ≤ b := by omega
  have HL := Lib.hid hL
  have HF := Lib.hid hF
  clear hb hL hF HN
  go_wp2_with fail
  go_loopw [7] (fun i wr => ∃ (j : Nat) (T : List (Nat × Nat)), j ≤ 120 ∧ j ≤ len ∧ i = .int .i64 (j : Int) ∧ Liv wr (fun i => w.heap.size ≤ i) b n T ∧ Fr (fun _ => False) w wr) (fun i _ => 200 - (intOf i).toNat)
  case atStart => exact ⟨0, [], by omega, by omega, rfl, HL.out, HF.out⟩
  case round =>
    obtain ⟨j, T, hj1, hj2, rfl, hL, hF2⟩ := hrel
    have HL2 := Lib.hid hL
    have HF2 := Lib.hid hF2
    clear hL hF2 HL HF
    by_cases h1 : j < len
    · by_cases h2 : j < 120
      · obtain ⟨bs, off, rfl, hbs2, hst⟩ := HST.out (by omega)
        obtain ⟨g, r, x, ⟨hx1, hx2⟩, c0, c1, c2⟩ := hst j h1
        have y0 := (HF2.out.cell (p := ⟨bs, off + j * 3, none⟩) hbs2 id).trans c0
        have y1 := (HF2.out.cell (p := ⟨bs, off + j * 3 + 1, none⟩) hbs2 id).trans c1
        have y2 := (HF2.out.cell (p := ⟨bs, off + j * 3 + 2, none⟩) hbs2 id).trans c2
        have h1I : (j : Int) < (len : Int) := by omega
        have h2I : (j : Int) < 120 := by omega
        clear hst
        cases g
        · have HT := Lib.hid (HL2.out.take_any x)
          go_wp2_with fail
          refine HT.out.mono ?_
          rintro e w3 ⟨a, c, T', rfl, hL3, hF3⟩
          have HL3 := Lib.hid (hL3.mono fun i h => h.elim id fun h => Nat.le_trans HF2.out.size h)
          have HF3 := Lib.hid (HF2.out.step hF3 fun i hi => .inr hi)
          clear hL3 hF3
          go_wp2_with fail
          go_roundw
          case rel => exact ⟨j + 1, T', by omega, by omega, by go_num, HL3.out, HF3.out⟩
          case measure => simp [intOf]; omega
        · have HP := Lib.hid (plc_bd r x hx1 hx2 _ HL2.out.mem16)
          go_wp2_with fail
          go_region_held3 (fun w' => w'.cell? ⟨bs, off + j * 3, none⟩ = some (.bool true) ∧ w'.cell? ⟨bs, off + j * 3 + 1, none⟩ = some (.bool r) ∧ w'.cell? ⟨bs, off + j * 3 + 2, none⟩ = some (.int .i64 x)) (first | go_keep | exact ⟨z0, z1, z2⟩ | exact ⟨y0, y1, y2⟩) ((first
            | (go_at_call 20; refine (HL2.out.fr0 (by repeat first | exact Fr.refl _ _ | refine Fr.drew ?_ | refine Fr.drewN ?_ _)).taken.mono ?_; rintro e w3 ⟨g3, c3, l3, rfl, hl3, hr3, _, hf3⟩; subst hl3; have HF3 := Lib.hid (HF2.out.trans (Fr.trans (by repeat first | exact Fr.refl _ _ | refine Fr.drew ?_ | refine Fr.drewN ?_ _) hf3)); have HL3 := Lib.hid (HL2.out.fr0 (Fr.trans (by repeat first | exact Fr.refl _ _ | refine Fr.drew ?_ | refine Fr.drewN ?_ _) hf3)); have z0 := (HF3.out.cell (p := ⟨bs, off + j * 3, none⟩) hbs2 id).trans c0; have z1 := (HF3.out.cell (p := ⟨bs, off + j * 3 + 1, none⟩) hbs2 id).trans c1; have z2 := (HF3.out.cell (p := ⟨bs, off + j * 3 + 2, none⟩) hbs2 id).trans c2)
            | (go_at_call 11; refine (place_any hr3 HL2.out.len16 true r x hx1 hx2).mono ?_; rintro e w4 ⟨rfl, hf4⟩; have z0 := (hf4.cell (p := ⟨bs, off + j * 3, none⟩) (Nat.lt_of_lt_of_le hbs2 HF3.out.size) id).trans z0; have z1 := (hf4.cell (p := ⟨bs, off + j * 3 + 1, none⟩) (Nat.lt_of_lt_of_le hbs2 HF3.out.size) id).trans z1; have z2 := (hf4.cell (p := ⟨bs, off + j * 3 + 2, none⟩) (Nat.lt_of_lt_of_le hbs2 HF3.out.size) id).trans z2; have HF4 := Lib.hid (HF3.out.trans hf4); have HL4 := Lib.hid (HL3.out.fr0 hf4))
            | (go_at_call 13; refine (HL4.out.give_any _ HP.out.1 HP.out.2).mono ?_; rintro e w5 ⟨cc, T', rfl, hL5, hF5⟩; have hlt4 := Nat.lt_of_lt_of_le hbs2 HF4.out.size; have z0 := (hF5.cell (p := ⟨bs, off + j * 3, none⟩) hlt4 (Nat.not_le_of_lt hbs2)).trans z0; have z1 := (hF5.cell (p := ⟨bs, off + j * 3 + 1, none⟩) hlt4 (Nat.not_le_of_lt hbs2)).trans z1; have z2 := (hF5.cell (p := ⟨bs, off + j * 3 + 2, none⟩) hlt4 (Nat.not_le_of_lt hbs2)).trans z2)))
          all_goals
            have HL5 := Lib.hid (hL5.mono fun i h => h.elim id fun h => Nat.le_trans HF4.out.size h)
            have HF5 := Lib.hid (HF4.out.step hF5 fun i hi => .inr hi)
            clear hL5 hF5 hf3 hf4 hr3
            go_wp2_with fail
            go_roundw
            case rel => exact ⟨j + 1, T', by omega, by omega, by go_num, HL5.out, HF5.out⟩
            case measure => simp [intOf]; omega
      · have h2I : ¬ (j : Int) < 120 := by omega
        have h1I : (j : Int) < (len : Int) := by omega
        go_wp2_with fail
        go_ret
        exact ⟨b, T, rfl, hbs, HL2.out, HF2.out⟩
    · have h1I : ¬ (j : Int) < (len : Int) := by omega
      go_wp2_with fail
      go_ret
      exact ⟨b, T, rfl, hbs, HL2.out, HF2.out⟩
end Go.Proofs.Ytncjhfofmeamdaa
