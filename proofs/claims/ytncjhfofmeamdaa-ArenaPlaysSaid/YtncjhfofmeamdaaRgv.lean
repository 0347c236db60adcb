/- The document's own arena: Give, Take. -/
import Derived.Test.YtncjhfofmeamdaaRop
import Derived.Deep.CutBlock
namespace Go.Proofs.Ytncjhfofmeamdaa
open Go.RowKit

section
variable {w : World} {g n c : Nat} {L : Tk}
theorem addr_add (g o k : Nat) : (⟨g, o, none⟩ : Addr).add k = ⟨g, o + k, none⟩ := by
  unfold Addr.add
  by_cases h0 : k = 0
  · subst h0; simp
  · rw [if_neg h0]
theorem Own.take_cells (h : Own w 56 2 (some ⟨g, 0, none⟩) n c (bls L)) (hn : L.length = n) {p : Nat} (hp : p ≤ n) : ∀ j u, (bls (L.take p))[j]? = some u → w.cell? ((⟨g, 0, none⟩ : Addr).add j) = some u := by
  intro j u hj
  have hjl := (List.getElem?_eq_some_iff.1 hj).1
  rw [bls_length, List.length_take] at hjl
  rw [addr_add, Nat.zero_add, h.cell j (by omega)]
  rw [← bls_take, List.getElem?_take, if_pos (by omega)] at hj
  exact hj
theorem Own.drop_cells (h : Own w 56 2 (some ⟨g, 0, none⟩) n c (bls L)) (hn : L.length = n) {p : Nat} : ∀ j u, (bls (L.drop p))[j]? = some u → w.cell? ((⟨g, p * 2, none⟩ : Addr).add j) = some u := by
  intro j u hj
  have hjl := (List.getElem?_eq_some_iff.1 hj).1
  rw [bls_length, List.length_drop] at hjl
  rw [addr_add, h.cell (p * 2 + j) (by omega)]
  rw [← bls_drop, List.getElem?_drop] at hj
  exact hj
end
/-- What a call of the document's arena leaves. -/
def RArE (w : World) (F : Nat → Prop) (b n : Nat) (L' : Tk) (w' : World) : Prop := RAr w' (fun i => F i ∨ w.heap.size ≤ i) b n L' ∧ Fr F w w'
section
variable {w : World} {b n : Nat} {F : Nat → Prop} {L : Tk}
set_option maxRecDepth 100000 in
set_option maxHeartbeats 3200000 in
theorem rgive_no (h : RAr w F b n L) (hlen : L.length ≤ 65536) (a : Int) (hno : ∀ p, p ∈ L → (p.1 : Int) ≠ a) :
    Calls Try.prog 14 #[.pointer (some ⟨b, 0, none⟩), .int .i64 a] w fun e w' => e = .returned (.int .i64 91) ∧ w = w' := by
  obtain ⟨A, c, hB, hO, _⟩ := h
  have b1 := hB.cell 1
  simp only [List.getElem?_toArray, List.getElem?_cons_zero, List.getElem?_cons_succ] at b1
  have HO := Lib.hid hO
  have HNO := Lib.hid hno
  clear hB hO hno
  go_enter Try.func14, Try.ntmps14
  go_wp2_with fail
  go_loop [5] (fun i => ∃ j : Nat, j ≤ L.length ∧ i = .int .i64 (j : Int)) (fun i => L.length + 1 - (intOf i).toNat)
  case atStart => exact ⟨0, Nat.zero_le _, rfl⟩
  case round =>
    obtain ⟨j, hj, rfl⟩ := hrel
    have hj16 : (j : Int) ≤ 65536 := by omega
    by_cases hjl : j < L.length
    · have hjI : (j : Int) < (L.length : Int) := by omega
      obtain ⟨y, k, hp⟩ : ∃ y k, L[j]? = some (y, k) := ⟨_, _, List.getElem?_eq_getElem hjl⟩
      obtain ⟨g, rfl⟩ := HO.out.some_ (by omega)
      have g0 := HO.out.cell (j * 2) (by omega)
      rw [(bls_cell L j (y, k) hp).1] at g0
      have hd : ((y : Int) == a) = false := by simpa using HNO.out (y, k) (List.mem_of_getElem? hp)
      have HJ := Lib.hid hjl
      clear hp
      go_wp2_with fail
      go_round
      case rel => exact ⟨j + 1, HJ.out, by go_num⟩
      case measure => simp [intOf]; omega
    · have hjI : ¬ (j : Int) < (L.length : Int) := by omega
      go_wp2_with fail
      go_ret
      exact ⟨rfl, rfl⟩
set_option maxRecDepth 100000 in
set_option maxHeartbeats 3200000 in
theorem rgive_ok (h : RAr w F b n L) (hlen : L.length ≤ 65536) {p a o : Nat} (hp : L[p]? = some (a, o)) (hbef : ∀ j q, j < p → L[j]? = some q → q.1 ≠ a) :
    Calls Try.prog 14 #[.pointer (some ⟨b, 0, none⟩), .int .i64 (a : Int)] w fun e w' => e = .returned (.int .i64 0) ∧ RArE w F b n (L.take p ++ L.drop (p + 1)) w' := by
  obtain ⟨A, c, hB, hO, hFb, hFA⟩ := h
  have hpl := (List.getElem?_eq_some_iff.1 hp).1
  obtain ⟨g, rfl⟩ := hO.some_ (by omega)
  have b1 := hB.cell 1
  have zb := hB.frozen 1
  simp only [List.getElem?_toArray, List.getElem?_cons_zero, List.getElem?_cons_succ] at b1
  have hq := hB.lt
  have hcc := hO.len_le
  have hgb : g ≠ b := hO.block_ne hB (by decide)
  have HB := Lib.hid hB
  have HO := Lib.hid hO
  have HFB := Lib.hid hFb
  have HFA := Lib.hid (hFA g rfl)
  have HP := Lib.hid hp
  have HBE := Lib.hid hbef
  have HLL := Lib.hid (show (L.take p ++ L.drop (p + 1)).length = p + (L.length - (p + 1)) by rw [List.length_append, List.length_take, List.length_drop]; omega)
  obtain ⟨n', hn⟩ : ∃ n', n' = L.length := ⟨_, rfl⟩
  have HN := Lib.hid hn
  rw [← hn] at hpl b1 hcc HO HLL hlen
  have hgl := hO.lt rfl
  clear hB hO hFb hFA hn hbef hp
  have hpn : (p : Int) < (n' : Int) := by omega
  have hpc : (p : Int) ≤ (c : Int) := by omega
  obtain ⟨i0, hi, hz0, hz1, hz2⟩ := info_parts info56
  go_enter Try.func14, Try.ntmps14
  go_wp2_with fail
  go_loop [5] (fun i => ∃ j : Nat, j ≤ p ∧ i = .int .i64 (j : Int)) (fun i => n' + 1 - (intOf i).toNat)
  case atStart => exact ⟨0, Nat.zero_le _, rfl⟩
  case round =>
    obtain ⟨j, hj, rfl⟩ := hrel
    have hj16 : (j : Int) ≤ 65536 := by omega
    have hjI : (j : Int) < (n' : Int) := by omega
    by_cases hjp : j < p
    · obtain ⟨y, k, hq2⟩ : ∃ y k, L[j]? = some (y, k) := ⟨_, _, List.getElem?_eq_getElem (by have := HN.out; omega)⟩
      have g0 := HO.out.cell (j * 2) (by omega)
      rw [(bls_cell L j (y, k) hq2).1] at g0
      have hd : ((y : Int) == (a : Int)) = false := by have := HBE.out j _ hjp hq2; simp at this; simp; omega
      clear hq2
      go_wp2_with fail
      go_round
      case rel => exact ⟨j + 1, by omega, by go_num⟩
      case measure => simp [intOf]; omega
    · obtain rfl : j = p := by omega
      have g0 := HO.out.cell (j * 2) (by omega)
      rw [(bls_cell L j (a, o) HP.out).1] at g0
      go_wp2_with (at_builtin; refine wpList_appendM w rfl (.tmp 26) (.tmp 32) 52 rfl 56 i0 _ 2 16 Try.underlying52 hi hz0 hz1 hz2 rfl (by omega) none 0 0 [] rfl (Own.nil_ _ _ _) ⟨g, 0, none⟩ j c (bls (L.take j)) rfl ?_ ?_ (bls_one_cell _) ?_ ?_ ?_)
      · rw [bls_length, List.length_take]; have := HN.out; omega
      · intro q u hqu
        have h9 := HO.out.take_cells HN.out.symm (p := j) (by omega) q u hqu
        rwa [addr_add, Nat.zero_add] at h9
      · omega
      · omega
      · intro A1 c1 w1 ho1 f1 hA1
        have f1' : Fr (fun _ => False) w w1 := f1.mono fun _ _ h => by cases h
        have hB1 := HB.out.fr f1' id
        have hO1 := HO.out.fr f1' fun _ _ => id
        have b1' := hB1.cell 1
        have zf := hB1.frozen 1
        simp only [List.getElem?_toArray, List.getElem?_cons_zero, List.getElem?_cons_succ] at b1'
        rw [← HN.out] at b1'
        have HB1 := Lib.hid hB1
        have HO1 := Lib.hid hO1
        have HO2 := Lib.hid ho1
        have HF1 := Lib.hid f1'
        have hq1 := hB1.lt
        have HA1 := Lib.hid (show ∀ g', A1 = some ⟨g', 0, none⟩ → w.heap.size ≤ g' from fun g' e => by
          rcases hA1 with h | ⟨g2, h, h2⟩
          · rw [h] at e; cases e
          · rw [h, Option.some.injEq, Addr.mk.injEq] at e; omega)
        have HFIN := Lib.hid (show ∀ (w3 : World) (A2 : Option Addr) (c2 : Nat), Own w3 56 2 A2 (j + (n' - (j + 1))) c2 ([] ++ bls (L.take j) ++ bls (L.drop (j + 1))) → Fr (fun i => A1 = some ⟨i, 0, none⟩) w1 w3 → (A2 = A1 ∨ ∃ g', A2 = some ⟨g', 0, none⟩ ∧ w1.heap.size ≤ g') →
            RArE w F b n (L.take j ++ L.drop (j + 1)) (w3.setCell ⟨b, 1, none⟩ (.slice A2 (j + (n' - (j + 1))) c2)) from fun w3 A2 c2 ho2 f2 hA2 => by
          have hB3 := hB1.fr f2 (fun e => by have := HA1.out _ e; omega)
          have hA2' : ∀ g', A2 = some ⟨g', 0, none⟩ → w.heap.size ≤ g' := fun g' e => by
            rcases hA2 with h | ⟨g2, h, h2⟩
            · exact HA1.out g' (by rw [← h, e])
            · rw [h, Option.some.injEq, Addr.mk.injEq] at e; have := HF1.out.size; omega
          have f : Fr (fun i => i = b) w3 (w3.setCell ⟨b, 1, none⟩ (.slice A2 (j + (n' - (j + 1))) c2)) := (Fr.refl (fun i => i = b) _).setCell (.inl rfl) _
          refine ⟨⟨A2, c2, by rw [HLL.out]; exact hB3.set_ 1 _, ?_, .inl HFB.out, fun g' e => .inr (hA2' g' e)⟩, ?_⟩
          · rw [HLL.out, bls_append]
            exact ho2.fr f fun g' e h => by have := hA2' g' e; omega
          · exact (((HF1.out.mono fun _ _ h => h.elim).step f2 fun i hi => .inr (HA1.out i hi))).setCell (.inl HFB.out) _)
        have HZ3 := Lib.hid (show ∀ (w3 : World), Fr (fun i => A1 = some ⟨i, 0, none⟩) w1 w3 → (w3.cell? ⟨b, 1, none⟩).isSome = true ∧ w3.cell? ⟨b, 1, none⟩ = some (.slice (some ⟨g, 0, none⟩) n' c) ∧ w3.frozen? ⟨b, 1, none⟩ = false from fun w3 f2 => by
          have hB3 := hB1.fr f2 (fun e => by have := HA1.out _ e; omega)
          have b3 := hB3.cell 1
          simp only [List.getElem?_toArray, List.getElem?_cons_zero, List.getElem?_cons_succ] at b3
          rw [← HN.out] at b3
          exact ⟨by rw [b3]; rfl, b3, hB3.frozen 1⟩)
        clear hB1 hO1 ho1 f1 f1' hA1
        by_cases hcp : c = j + 1
        · have hcpi : ((c : Int) = (j : Int) + 1) := by omega
          have HZ := Lib.hid (show n' = j + 1 by omega)
          go_wp2_with (at_builtin; refine wpList_appendM w1 rfl (.tmp 35) (.tmp 42) 52 rfl 56 i0 _ 2 16 Try.underlying52 hi hz0 hz1 hz2 rfl (by omega) A1 j c1 _ rfl HO2.out ⟨g, 0, none⟩ (n' - (j + 1)) (0) (bls (L.drop (j + 1))) rfl ?_ ?_ (bls_one_cell _) ?_ ?_ ?_)
          · rw [bls_length, List.length_drop]; have := HN.out; omega
          · intro q u hj2
            have hjl := (List.getElem?_eq_some_iff.1 hj2).1
            rw [bls_length, List.length_drop] at hjl
            have := HZ.out
            have := HN.out
            omega
          · omega
          · omega
          · intro A2 c2 w3 ho2 f2 hA2
            obtain ⟨_, b3, z3⟩ := HZ3.out w3 f2
            have HFI := Lib.hid (HFIN.out w3 A2 c2 ho2 f2 hA2)
            clear ho2 f2 hA2 b1'
            go_wp2_with fail
            go_ret
            exact ⟨rfl, HFI.out⟩
        · go_wp2_with (at_builtin; refine wpList_appendM w1 rfl (.tmp 35) (.tmp 42) 52 rfl 56 i0 _ 2 16 Try.underlying52 hi hz0 hz1 hz2 rfl (by omega) A1 j c1 _ rfl HO2.out ⟨g, (j + 1) * 2, none⟩ (n' - (j + 1)) (c - (j + 1)) (bls (L.drop (j + 1))) rfl ?_ ?_ (bls_one_cell _) ?_ ?_ ?_)
          · rw [bls_length, List.length_drop]; have := HN.out; omega
          · intro q u hqu
            have h9 := HO1.out.drop_cells HN.out.symm (p := j + 1) q u hqu
            first | exact h9 | rwa [addr_add] at h9
          · omega
          · omega
          · intro A2 c2 w3 ho2 f2 hA2
            obtain ⟨_, b3, z3⟩ := HZ3.out w3 f2
            have HFI := Lib.hid (HFIN.out w3 A2 c2 ho2 f2 hA2)
            clear ho2 f2 hA2 b1'
            go_wp2_with fail
            go_ret
            exact ⟨rfl, HFI.out⟩
end
end Go.Proofs.Ytncjhfofmeamdaa
