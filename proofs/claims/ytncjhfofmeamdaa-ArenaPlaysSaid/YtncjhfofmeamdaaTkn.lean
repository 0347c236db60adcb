/- Taken. -/
import Derived.Test.YtncjhfofmeamdaaSrt
import Derived.Test.YtncjhfofmeamdaaGp
import Derived.Test.YtncjhfofmeamdaaFre
import Derived.Deep.LoopGhost
namespace Go.Proofs.Ytncjhfofmeamdaa
open Go.RowKit

theorem own_made (w : World) (c : Nat) (hc : c ≤ maxLen) : Own (w.alloc (.cells (madeCells #[Value.int .i64 0] c) 3)) 3 1 (some ⟨w.heap.size, 0, none⟩) 0 c [] :=
  ⟨by simp, .inr ⟨w.heap.size, _, rfl, Blk.new w 3 _, Nat.zero_le _, hc, by rw [size_madeCells]; simp, by simp⟩⟩
theorem Own.toRow {w : World} {g c : Nat} {l : List Nat} (h : Own w 3 1 (some ⟨g, 0, none⟩) l.length c (ints l)) : Row w (some ⟨g, 0, none⟩) c l := by
  obtain ⟨_, h⟩ := h
  rcases h with ⟨h, _⟩ | ⟨g', cur, hA, hg, hnc, hcm, hcs, ht⟩
  · cases h
  · refine .inr ⟨g', 0, cur, hA, hg, hnc, hcm, by omega, fun j x hj => ?_⟩
    have h1 := ints_at hj
    rw [← ht, Nat.mul_one] at h1
    rw [List.getElem?_take] at h1
    split at h1
    · rw [Nat.zero_add, ← Array.getElem?_toList]; exact h1
    · cases h1
theorem info3 : (Try.prog.info? 3).map (fun i => (i.zero, i.size, i.bytes)) = some (some (.int .i64 0), 1, 8) := by kernel_rfl
/-- The places, rising. -/
def sortL (l : List Nat) : List Nat := l.mergeSort fun x y => decide (x ≤ y)
def TakenE (w : World) (T : List (Nat × Nat)) (e : Ending) (w' : World) : Prop :=
  ∃ g c l, e = .returned (.slice (some ⟨g, 0, none⟩) l.length c) ∧ l = sortL (T.map (·.1)) ∧ Row w' (some ⟨g, 0, none⟩) c l ∧ w.heap.size ≤ g ∧ Fr (fun _ => False) w w'
theorem sort_perm {l l' : List Nat} (h : l.Perm l') : l.mergeSort (fun x y => decide (x ≤ y)) = sortL l' := by
  unfold sortL
  refine List.Perm.eq_of_pairwise (le := fun a b => a ≤ b) (fun a b _ _ h1 h2 => Nat.le_antisymm h1 h2) ?_ ?_ (((List.mergeSort_perm l _).trans h).trans (List.mergeSort_perm l' _).symm)
  · exact (List.pairwise_mergeSort (fun a b c h1 h2 => by simp at h1 h2 ⊢; omega) (fun a b => by simp; omega) l).imp fun h => by simpa using h
  · exact (List.pairwise_mergeSort (fun a b c h1 h2 => by simp at h1 h2 ⊢; omega) (fun a b => by simp; omega) l').imp fun h => by simpa using h

set_option maxHeartbeats 1600000 in
theorem taken_any {w : World} {b m fb n : Nat} {A : Nat → Option Addr} {c : Nat → Nat} {f : Nat → List Nat} {T : List (Nat × Nat)} (h : Ar w b m fb n A c f T) (hT : T.length ≤ 65536) :
    Calls Try.prog 20 #[.pointer (some ⟨b, 0, none⟩)] w (TakenE w T) := by
  have b1 := h.cmap
  have hlb := h.lt
  have hm := h.map
  have H := Lib.hid h
  obtain ⟨i0, hi, hz0, hz1, hz2⟩ := info_parts info3
  have hms : ∀ W, (Instr.makeSlice 34 (.int .i64 0) (.int .i64 (T.length : Int))).run Try.prog W = .ok (.slice (some ⟨W.heap.size, 0, none⟩) 0 T.length) (W.alloc (.cells (madeCells #[Value.int .i64 0] T.length) 3)) := fun W => by
    have := run_make_rowN (P := Try.prog) 34 3 i0 _ Try.underlying34 hi hz0 .i64 .i64 0 T.length (Nat.zero_le _) (by rw [hz2]; omega) (by omega) W
    rw [hz1, Nat.mul_one] at this
    exact this
  have hlen : (mkT T).length = T.length := by simp [mkT]
  have HO := Lib.hid (own_made w T.length (by unfold maxLen; omega))
  have HA := Lib.hid (h.fr0 ((Fr.refl (fun _ => False) w).alloc (.cells (madeCells #[Value.int .i64 0] T.length) 3)))
  have HF := Lib.hid ((Fr.refl (fun _ => False) w).alloc (.cells (madeCells #[Value.int .i64 0] T.length) 3))
  clear h
  go_enter Try.func20, Try.ntmps20
  go_wp2_with (first | (at_len; refine wpList_len _ rfl _ 48 rfl 3 3 Try.underlying48 kfI kfN m _ hm rfl ?_; rw [hlen]) | (at_range; refine wpList_range _ rfl (.tmp 14) 48 rfl 3 3 Try.underlying48 kfI kfN m _ HA.out.map rfl ?_))
  intro w1 hI f1 s1
  have HI := Lib.hid hI
  have HO1 := Lib.hid (HO.out.fr f1 (fun _ _ => id))
  have HF1 := Lib.hid (HF.out.trans f1)
  have hmw := H.out.map.lt
  clear hI f1 s1 b1 hlb hm hms HO HA HF
  obtain ⟨g0, hg0⟩ : ∃ g0, g0 = w.heap.size := ⟨_, rfl⟩
  have HG0 := Lib.hid hg0
  rw [← hg0] at HO1 HI hmw ⊢
  have hrg : g0 ≠ g0 + 1 ∧ g0 < g0 + 1 := ⟨by omega, by omega⟩
  clear hg0
  go_wp2_with fail
  go_loopg [3] T.length (fun gk v wr => ∃ (g c' : Nat) (l : List Nat) (rest : List (Int × Nat)), rest.length = gk ∧ v = .slice (some ⟨g, 0, none⟩) l.length c' ∧ IterIs Try.prog 3 kfI kfN wr (g0 + 1) m (mkT T) rest ∧ Own wr 3 1 (some ⟨g, 0, none⟩) l.length c' (ints l) ∧ w.heap.size ≤ g ∧ g ≠ g0 + 1 ∧ (l ++ rest.map (fun p => p.1.toNat)).Perm (T.map (·.1)) ∧ Fr (fun _ => False) w wr)
  case atStart => exact ⟨g0, T.length, [], mkT T, hlen, rfl, HI.out, HO1.out, by rw [HG0.out]; exact Nat.le_refl _, hrg.1, by simp [mkT, Function.comp_def], HF1.out⟩
  case round =>
    obtain ⟨g, c', l, rest, hgk, rfl, hI2, hO2, hg1, hg2, hP, hF2⟩ := hrel
    have HP := Lib.hid hP
    have HO2 := Lib.hid hO2
    have HF2 := Lib.hid hF2
    have HGK := Lib.hid hgk
    have hll : l.length + gk = T.length := by
      have := hP.length_eq
      simp at this; omega
    have hmr : g0 + 1 < wr.heap.size := hI2.lt
    clear hgk hO2 hF2 hP HI HO1 HF1
    go_wp2_with (first | (at_next; refine wpList_next_ _ rfl (.tmp 15) rfl 3 kfI kfN (g0 + 1) m _ _ hI2 rfl ?_ ?_))
    · intro h0
      subst h0
      have HS := Lib.hid (sort_any (w := wr) HO2.out.toRow (by omega))
      have HQ := Lib.hid (sort_perm (l := l) (l' := T.map (·.1)) (by simpa using HP.out))
      clear hI2
      go_wp2_with fail
      refine HS.out.mono ?_
      rintro e w3 ⟨rfl, hR, hF3⟩
      have HR := Lib.hid hR
      have HF3 := Lib.hid (HF2.out.step hF3 fun i ⟨o, e⟩ => .inr (by rw [Option.some.injEq, Addr.mk.injEq] at e; omega))
      clear hR hF3
      go_wp2_with fail
      go_ret
      exact ⟨g, c', _, by rw [List.length_mergeSort]; rfl, HQ.out, HR.out, hg1, HF3.out⟩
    · intro i x t w2 hi2 hit hfr hsz hen
      have hxm := hI2.sub.subset (List.mem_of_getElem? hi2)
      obtain ⟨p, hp, hpx⟩ := List.mem_map.1 hxm
      obtain ⟨y, rfl⟩ : ∃ y : Nat, x = (y : Int) := ⟨p.1, by rw [Prod.mk.injEq] at hpx; exact hpx.1.symm⟩
      have hil := (List.getElem?_eq_some_iff.1 hi2).1
      have HE := Lib.hid (show (rest.eraseIdx i).length = gk - 1 by rw [List.length_eraseIdx, if_pos hil, HGK.out])
      have hgp : 0 < gk := by have := HGK.out; omega
      have HP2 := Lib.hid (show ((l ++ [y]) ++ (rest.eraseIdx i).map (fun p => p.1.toNat)).Perm (T.map (·.1)) by
        refine List.Perm.trans ?_ HP.out
        rw [List.append_assoc]
        refine List.Perm.append_left l ?_
        have h1 : rest[i] = ((y : Int), t) := (List.getElem?_eq_some_iff.1 hi2).2
        have h2 : rest = rest.take i ++ ((y : Int), t) :: rest.drop (i + 1) := by
          rw [← h1, ← List.drop_eq_getElem_cons hil, List.take_append_drop]
        rw [List.eraseIdx_eq_take_drop_succ]
        conv => rhs; rw [h2]
        rw [List.map_append, List.map_append, List.map_cons]
        simp only [Int.toNat_natCast, List.singleton_append]
        exact List.perm_middle.symm)
      have hO3 := HO2.out.fr hfr (fun g' e => by rw [Option.some.injEq, Addr.mk.injEq] at e; omega)
      have HIT := Lib.hid hit
      have HFR := Lib.hid (HF2.out.step hfr fun j hj => .inr (by have := HG0.out; omega))
      simp only [kfI, kfN] at hen ⊢
      have hmr2 : g0 + 1 < w2.heap.size := hit.lt
      clear hxm hp hpx hil hi2 hit hfr hI2 hsz hmr
      go_wp2_with (at_builtin; refine wpList_append1 w2 rfl _ _ 34 rfl 3 i0 (.int .i64 0) 1 8 Try.underlying34 hi hz0 hz1 hz2 rfl (by omega) (some ⟨g, 0, none⟩) l.length c' _ rfl hO3 [.int .i64 (y : Int)] rfl rfl ?_ ?_ ?_ ?_)
      · intro u hu; simp at hu; subst hu; rfl
      · omega
      · omega
      · intro g' c2 w5 hown5 hF5 hat5
        have hO5 : Own w5 3 1 (some ⟨g', 0, none⟩) (l ++ [y]).length c2 (ints (l ++ [y])) := by
          unfold ints at hown5 ⊢
          rw [List.map_append, List.length_append]; exact hown5
        have HO5 := Lib.hid hO5
        have hwg : w.heap.size ≤ w2.heap.size := HFR.out.size
        have hg3 : w.heap.size ≤ g' ∧ g' ≠ g0 + 1 := by
          rcases hat5 with e | e
          · omega
          · omega
        have HI5 := Lib.hid (HIT.out.fr hF5 (fun e => by have := HG0.out; omega) (fun e => by omega))
        have HF5 := Lib.hid (HFR.out.step hF5 fun i e => .inr (by omega))
        clear hown5 hF5 hat5 hO5 hO3
        go_wp2_with fail
        go_roundg (gk - 1)
        case measure => omega
        case rel => exact ⟨g', c2, l ++ [y], _, HE.out, by rw [List.length_append]; rfl, HI5.out, HO5.out, hg3.1, hg3.2, HP2.out, HF5.out⟩
end Go.Proofs.Ytncjhfofmeamdaa
