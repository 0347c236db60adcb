/- New, Add, Len, Now, Left. -/
import Derived.Test.YtgmeebpgncenmaaWh
import Derived.BigRegion
import Derived.Carry
import Derived.Deep.RegionWith
import Derived.Deep.RegionLaw
namespace Go.Proofs.Ytgmeebpgncenmaa
open Go.RowKit
open Go.Maps (Keyed)

theorem info_tm : (Try.prog.info? 55).map (fun i => (i.zero, i.size, i.bytes)) = some (some (.agg #[.int .i64 0, .int .i64 0, .int .i64 0]), 3, 24) := by kernel_rfl
theorem keyed3 : Keyed Try.prog 3 := Go.Maps.int_keyed Try.underlying3
theorem key3 (a : Int) (h1 : -9223372036854775808 ≤ a) (h2 : a ≤ 9223372036854775807) : keyOf Try.prog 3 (kfI a) = some (.int .i64 a) :=
  Go.Maps.keyOf_int_mk Try.underlying3 (by
    have e1 : IntKind.i64.min = -9223372036854775808 := rfl
    have e2 : IntKind.i64.max = 9223372036854775807 := rfl
    simp only [Lit.wf, Bool.and_eq_true, decide_eq_true_eq]
    omega)

set_option maxHeartbeats 1600000 in
theorem new_any (w : World) : Calls Try.prog 9 #[] w fun e w' => e = .returned (.pointer (some ⟨w.heap.size + 1, 0, none⟩)) ∧ Wh w' (w.heap.size + 1) w.heap.size 0 0 (fun _ => none) (fun _ => 0) (fun _ => []) [] ∧ Fr (fun _ => False) w w' := by
  have hmk := run_makeMap (P := Try.prog) 46 w
  go_enter Try.func9, Try.ntmps9
  go_wp2_with fail
  go_ret
  refine ⟨rfl, ⟨⟨_, by have h0 := Blk.new (w.alloc (.map #[] 0)) 51 ([Value.int .i64 0, Value.int .i64 0] ++ (List.replicate 48 (Value.slice none 0 0) ++ [Value.map (some w.heap.size)])).toArray; rw [show (w.alloc (.map #[] 0)).heap.size = w.heap.size + 1 by simp] at h0; exact h0, ?_⟩, (MapIs.new w _ _ _ _).alloc _, fun i _ => Own.nil_ _ _ _, nofun⟩, ((Fr.refl _ w).alloc _).alloc _⟩
  refine ⟨rfl, rfl, rfl, fun i hi => ?_, rfl⟩
  rw [List.getElem?_toArray, List.getElem?_append_right (by simp), List.getElem?_append_left (by simp; omega), List.getElem?_replicate]
  rw [if_pos (by simp; omega)]
  rfl

set_option maxHeartbeats 1600000 in
theorem add_ok (b m now added : Nat) (A : Nat → Option Addr) (c : Nat → Nat) (X : Nat → List Tm) (L : List Tm) (w : World) (id : Int) (a k : Nat) (hkk : slotI now (now + a) = k) (h : Wh w b m now added A c X L)
    (hid : -9223372036854775808 ≤ id ∧ id ≤ 9223372036854775807) (ha1 : (1 : Int) ≤ (a : Int)) (ha2 : (a : Int) ≤ 4095) (hno : ∀ t ∈ L, t.id ≠ id) (hl : ((L.length : Int) == 1000) = false) (hnow : now < 1152921504606846976) (hadd : added < 1152921504606846976) (hcap : ∀ i, i < 48 → ((X i).length + 1) * 24 ≤ 140737488355328) :
    Calls Try.prog 11 #[.pointer (some ⟨b, 0, none⟩), .int .i64 id, .int .i64 (a : Int)] w fun e w' => e = .returned (.int .i64 0) ∧ ∃ A' c', Wh w' b m now (added + 1) A' c' (upd X k (X k ++ [⟨id, now + a, added + 1⟩])) (L ++ [⟨id, now + a, added + 1⟩]) ∧ Fr (Wf b m A) w w' ∧ ∀ i, Wf b m A' i → Wf b m A i ∨ w.heap.size ≤ i := by
  have c0 := h.cnow
  have c1 := h.cadded
  have c50 := h.cmap
  have hlt := h.lt
  have z1 := h.frozen 1
  have hk : k < 48 := hkk ▸ slotI_lt now (now + a)
  have hno' : ∀ p ∈ L.map (fun t => (t.id, t)), kfI p.1 ≠ kfI id := by
    intro p hp
    obtain ⟨t, ht, rfl⟩ := List.mem_map.1 hp
    simpa [kfI] using hno t ht
  go_enter Try.func11, Try.ntmps11
  go_wp2_with (first | (at_lookup; refine wpList_look_none _ rfl _ _ 46 true rfl 3 55 keyed3 Try.underlying46 kfI Tm.v m _ h.map _ (Try.zeroValue55 _) rfl id rfl _ (key3 id hid.1 hid.2) hno' ?_) | (at_len; refine wpList_len _ rfl _ 46 rfl 3 55 Try.underlying46 kfI Tm.v m _ (h.map.alloc _) rfl ?_))
  have h1 : Wh ((w.setCell ⟨b, 1, none⟩ (.int .i64 ((added : Int) + 1))).alloc (.cells #[.int .i64 0, .int .i64 0, .int .i64 0] 55)) b m now (added + 1) A c X L := (h.setAdded (added + 1)).fr0 ((Fr.refl _ _).alloc _)
  have f1 : Fr (Wf b m A) w ((w.setCell ⟨b, 1, none⟩ (.int .i64 ((added : Int) + 1))).alloc (.cells #[.int .i64 0, .int .i64 0, .int .i64 0] 55)) := ((Fr.refl _ w).setCell (.inl (.inl rfl)) _).alloc _
  clear c0 c1 c50 hlt z1
  generalize (w.setCell ⟨b, 1, none⟩ (.int .i64 ((added : Int) + 1))).alloc (.cells #[.int .i64 0, .int .i64 0, .int .i64 0] 55) = W at h1 f1 ⊢
  have c0 := h1.cnow
  have c1 : W.cell? ⟨b, 1, none⟩ = some (.int .i64 ((added : Int) + 1)) := h1.cadded
  have c50 := h1.cmap
  have hlt := h1.lt
  go_region
  have h2 : Wh (W.alloc (.cells #[.int .i64 id, .int .i64 ((now : Int) + (a : Int)), .int .i64 ((added : Int) + 1)] 55)).drew b m now (added + 1) A c X L := h1.fr0 ((Fr.refl _ _).alloc _).drew
  have f2 : Fr (Wf b m A) w (W.alloc (.cells #[.int .i64 id, .int .i64 ((now : Int) + (a : Int)), .int .i64 ((added : Int) + 1)] 55)).drew := (f1.alloc _).drew
  have hB : Blk (W.alloc (.cells #[.int .i64 id, .int .i64 ((now : Int) + (a : Int)), .int .i64 ((added : Int) + 1)] 55)).drew W.heap.size 55 #[.int .i64 id, .int .i64 ((now : Int) + (a : Int)), .int .i64 ((added : Int) + 1)] := Blk.new _ _ _
  have hW : ∀ i, Wf b m A i → i ≠ W.heap.size := fun i hi => Nat.ne_of_lt (h1.in_ hi)
  clear c0 c1 c50 hlt h1 f1 h
  generalize (W.alloc (.cells #[.int .i64 id, .int .i64 ((now : Int) + (a : Int)), .int .i64 ((added : Int) + 1)] 55)).drew = W2 at h2 f2 hB ⊢
  generalize W.heap.size = g at hB hW ⊢
  have c50 := h2.cmap
  have b0 := hB.cell 0
  have b1 := hB.cell 1
  have b2 := hB.cell 2
  have hlt := hB.lt
  simp only [List.getElem?_toArray, List.getElem?_cons_zero, List.getElem?_cons_succ] at b0 b1 b2
  go_wp2_with fail
  obtain ⟨w2, hrun, hm2, f3, s3⟩ := (h2.map.drewN 1).store_new keyed3 Try.underlying46 (⟨id, now + a, added + 1⟩ : Tm) (key3 id hid.1 hid.2) hno'
  have hrun' : (Instr.mapUpdate 46 (.map (some m)) (.int .i64 id) (.agg #[.int .i64 id, .int .i64 ((now : Int) + (a : Int)), .int .i64 ((added : Int) + 1)])).run Try.prog W2.drew = .ok () w2 := hrun
  clear hrun
  go_region
  have h3 : Wh w2 b m now (added + 1) A c X (L ++ [⟨id, now + a, added + 1⟩]) := Wh.remap (h2.fr0 (Fr.refl _ W2).drew) f3 (by simpa using hm2)
  have hB3 : Blk w2 g 55 #[.int .i64 id, .int .i64 ((now : Int) + (a : Int)), .int .i64 ((added : Int) + 1)] := Blk.fr hB.drew f3 (fun e => hW m (.inr (.inl rfl)) e.symm)
  have f4 : Fr (Wf b m A) w w2 := f2.drew.step f3 (fun i hi => .inl (.inr (.inl hi)))
  clear h2 f2 hB hm2 f3 s3 hrun' b0 b1 b2 c50 hlt
  have k0 := hB3.cell 0
  have k1 := hB3.cell 1
  have k2 := hB3.cell 2
  simp only [List.getElem?_toArray, List.getElem?_cons_zero, List.getElem?_cons_succ] at k0 k1 k2
  have hs : Calls Try.prog 26 #[.pointer (some ⟨b, 0, none⟩), .agg #[.int .i64 id, .int .i64 ((now : Int) + (a : Int)), .int .i64 ((added : Int) + 1)]] w2 fun e w' => e = .returned (.pointer (some ⟨b, 2 + k, none⟩)) ∧ Fr (fun _ => False) w2 w' :=
    hkk ▸ slot_any b now (now + a) (added + 1) id w2 h3.cnow h3.lt (by omega) (by omega)
  go_wp2_with fail
  refine hs.mono ?_
  rintro e w3 ⟨rfl, f5⟩
  have h4 := h3.fr0 f5
  have hB4 : Blk w3 g 55 #[.int .i64 id, .int .i64 ((now : Int) + (a : Int)), .int .i64 ((added : Int) + 1)] := Blk.fr hB3 f5 (fun x => x)
  have f6 : Fr (Wf b m A) w w3 := f4.step f5 (fun i hi => hi.elim)
  clear h3 hB3 f4 f5 hs k0 k1 k2
  have k0 := hB4.cell 0
  have k1 := hB4.cell 1
  have k2 := hB4.cell 2
  have hlt := hB4.lt
  simp only [List.getElem?_toArray, List.getElem?_cons_zero, List.getElem?_cons_succ] at k0 k1 k2
  have hlb := h4.lt
  have cr := h4.crim k hk
  have zr := h4.frozen (2 + k)
  have hol := h4.own k hk
  have hbne : ∀ g', A k = some ⟨g', 0, none⟩ → b ≠ g' := fun g' e => (h4.ba hk e).symm
  obtain ⟨i0, hi, hz0, hz1, hz2⟩ := info_parts info_tm
  obtain ⟨g', c', w5, hrun, ho, f7, hg'⟩ := run_append1 (P := Try.prog) w3.drew 47 47 55 i0 _ 3 24 Try.underlying47 hi hz0 hz1 hz2 rfl (by omega) (A k) (X k).length (c k) _ hol
    (Tm.cs ⟨id, now + a, added + 1⟩) rfl (by simp [Tm.cs, Value.oneCell']) (hcap k hk) (by have := hcap k hk; omega)
  have hrun' : (Builtin.append_ #[47, 47] 47 #[.slice (A k) (X k).length (c k), .slice (some ⟨w3.heap.size, 0, none⟩) 1 1]).run Try.prog (w3.alloc (.cells #[.int .i64 id, .int .i64 ((now : Int) + (a : Int)), .int .i64 ((added : Int) + 1)] 55)).drew = .ok (.slice (some ⟨g', 0, none⟩) ((X k).length + 1) c') w5 := hrun
  clear hrun
  have cr5 : w5.cell? ⟨b, 2 + k, none⟩ = some (.slice (A k) (X k).length (c k)) := (f7.cell h4.lt (fun e => h4.ba hk e rfl)).trans cr
  have zr5 : w5.frozen? ⟨b, 2 + k, none⟩ = false := (f7.frozen h4.lt (fun e => h4.ba hk e rfl)).trans zr
  have ho' : Own w5 55 3 (some ⟨g', 0, none⟩) (X k ++ [(⟨id, now + a, added + 1⟩ : Tm)]).length c' (tcs (X k ++ [(⟨id, now + a, added + 1⟩ : Tm)])) := by
    rw [tcs_append, tcs_one, List.length_append]; exact ho
  have hX := (h4.fr0 (Fr.refl _ w3).drew).put hk f7 ho' (fun g'' e => by rw [Option.some.injEq, Addr.mk.injEq] at e; rw [← e.1]; exact hg')
  simp only [List.length_append, List.length_singleton] at hX
  have hF : Fr (Wf b m A) w (w5.setCell ⟨b, 2 + k, none⟩ (.slice (some ⟨g', 0, none⟩) ((X k).length + 1) c')) :=
    (f6.drew.step f7 (fun i hi => .inl (.inr (.inr ⟨k, hk, hi⟩)))).setCell (.inl (.inl rfl)) _
  have hS : ∀ i, Wf b m (upd A k (some ⟨g', 0, none⟩)) i → Wf b m A i ∨ w.heap.size ≤ i := by
    rintro i (rfl | rfl | ⟨j, hj, e⟩)
    · exact .inl (.inl rfl)
    · exact .inl (.inr (.inl rfl))
    · by_cases ej : j = k
      · subst ej
        rw [upd_same] at e
        rw [Option.some.injEq, Addr.mk.injEq] at e
        rw [← e.1]
        rcases hg' with h1 | h1
        · exact .inl (.inr (.inr ⟨j, hj, h1⟩))
        · exact .inr (Nat.le_trans f6.size h1)
      · rw [upd_other _ _ ej] at e
        exact .inl (.inr (.inr ⟨j, hj, e⟩))
  have H := Lib.hid hrun'
  have HX := Lib.hid hX
  have HF := Lib.hid hF
  have HS := Lib.hid hS
  clear hX hF hS ho' ho f7 hg' hol h4 hB4 f6 hno hno' hcap
  clear hrun'
  go_wp2_with fail
  go_region_law (refine step_append_run rfl (.tmp 67) (.tmp 69) 47 (by rfl) _ _ _ _ (by rfl) (by rfl) H.out ?_)
  all_goals go_wp2_with fail
  all_goals go_ret
  all_goals exact ⟨rfl, _, _, HX.out, HF.out, HS.out⟩
end Go.Proofs.Ytgmeebpgncenmaa
