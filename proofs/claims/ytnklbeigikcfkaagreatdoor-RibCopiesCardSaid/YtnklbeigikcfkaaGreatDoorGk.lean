/- The document's rib: those that hold an address; the row without one; a path dropped. The document's rib: the row without one; a path dropped; those of one who tells; a copy. -/
import Derived.Test.YtnklbeigikcfkaaGreatDoorGj
import Derived.Test.YtnklbeigikcfkaaGreatDoorGd
namespace Go.Proofs.YtnklbeigikcfkaaGreatDoor
open Go.Proofs Go.RowKit
theorem Own.x4 {w : World} {e : TypeId} {g n c : Nat} {l : List Px} (h : Own w e 4 (some ⟨g, 0, none⟩) n c (flat l)) (hn : l.length = n) {j : Nat} {x : Px} (hj : l[j]? = some x) :
    w.cell? ⟨g, j * 4, none⟩ = some (.bool x.ad.six) ∧ w.cell? ⟨g, j * 4 + 1, none⟩ = some (.int .u64 (x.ad.hi : Int)) ∧ w.cell? ⟨g, j * 4 + 2, none⟩ = some (.int .u64 (x.ad.lo : Int)) ∧ w.cell? ⟨g, j * 4 + 3, none⟩ = some (.int .i64 x.bits) :=
  ⟨h.elem hn hj 0 (by decide), h.elem hn hj 1 (by decide), h.elem hn hj 2 (by decide), h.elem hn hj 3 (by decide)⟩
section
variable {w : World}
set_option maxHeartbeats 12800000 in
set_option maxRecDepth 100000 in
theorem rf_over (q : Nat) (F : Nat → Prop) (L : List Td) (a : Ad) (h : Rf w q F L) (ha : a.ok) :
    Calls Tryz.prog 33 #[.pointer (some ⟨q, 0, none⟩), adV a] w fun e w' => ∃ v, e = .returned v ∧ NewXs w w' v (overT L a) := by
  have KP := Lib.hid fun (W : World) (hW : Fr N0 w W) => rf_prefs (w := W) q F L (h.n0 hW)
  have hmany := h.row.many
  have KH2 := Lib.hid fun (W : World) (p : Px) (hp : p ∈ prefsT L) (d : Bool) (hd : d = holdsP p a) => hd ▸ rhol (w := W) p a (h.row.px hp).1 ha
  have HOV := Lib.hid (show overT L a = ((prefsT L).filter fun p => holdsP p a).reverse from rfl)
  obtain ⟨K, hK⟩ : ∃ K, K = overT L a := ⟨_, rfl⟩
  rw [← hK] at HOV ⊢
  obtain ⟨P, hP⟩ : ∃ P, P = prefsT L := ⟨_, rfl⟩
  rw [← hP] at KP KH2 HOV hmany
  clear h ha hK hP
  obtain ⟨O, hO⟩ : ∃ O : Ad, O = a := ⟨_, rfl⟩
  rw [← hO] at HOV
  have HOA := Lib.hid hO
  clear hO
  obtain ⟨s, h1, l⟩ := a
  unfold adV at KH2 ⊢
  simp only at KH2 ⊢
  go_enter Tryz.func33, Tryz.ntmps33
  go_wp2_with fail
  have HA1 := Lib.hid (Blk.new w 30 #[Value.bool s, Value.int .u64 (h1 : Int), Value.int .u64 (l : Int)])
  have HF1 := Lib.hid (Fr.alloc (Fr.refl N0 w) (.cells #[Value.bool s, Value.int .u64 (h1 : Int), Value.int .u64 (l : Int)] 30))
  generalize w.alloc _ = w1 at *
  obtain ⟨g1, hg1⟩ : ∃ g1, g1 = w.heap.size := ⟨_, rfl⟩
  rw [← hg1] at HA1 ⊢
  have HG1 : Hid (w.heap.size ≤ g1) := Lib.hid (by omega)
  clear hg1
  have HZ1 : Hid (∀ W, Fr N0 w1 W → Blk W g1 30 #[Value.bool s, Value.int .u64 (h1 : Int), Value.int .u64 (l : Int)]) := Lib.hid fun W hf => HA1.out.fr hf id
  have F := Lib.hid (Fr.refl N0 w1)
  refine (KP.out _ HF1.out).mono ?_
  rintro e w2 ⟨v, rfl, A, c, rfl, ho, hf, hn⟩
  obtain ⟨n, hnl⟩ : ∃ n, n = P.length := ⟨_, rfl⟩
  rw [← hnl] at ho hmany ⊢
  have HN := Lib.hid hnl.symm
  have HO := Lib.hid ho
  have F2 := Lib.hid hf
  clear ho hf hn hnl KP
  go_wp2_with fail
  go_loopw [5, 7] (fun vo vi wr => ∃ (j c : Nat) (A : Option Addr) (o : List Px), j ≤ n ∧ vi = .int .i64 (j : Int) ∧ vo = .slice A o.length c ∧ o = ((P.take j).filter fun p => holdsP p O).reverse ∧ Own wr 32 4 A o.length c (flat o) ∧ (∀ g, A = some ⟨g, 0, none⟩ → w1.heap.size ≤ g) ∧ Fr N0 w2 wr) (fun _ vi _ => n - (intOf vi).toNat)
  case atStart => exact ⟨0, 0, none, [], Nat.zero_le _, rfl, rfl, by simp, Own.nil_ _ _ _, nofun, Fr.refl _ _⟩
  case round =>
    obtain ⟨j, c', A', o, hj, rfl, rfl, ho, hO', hA', hF⟩ := hrel
    have hol : o.length ≤ 90 := by
      rw [ho, List.length_reverse]
      have h1 := List.length_filter_le (fun p => holdsP p O) (P.take j)
      have h2 := List.length_take_le j P
      omega
    have HOE := Lib.hid ho
    have HO' := Lib.hid hO'
    have HA' := Lib.hid hA'
    have F3 := Lib.hid (F2.out.trans hF)
    have HO3 := Lib.hid (HO.out.fr hF fun _ _ => id)
    have FW := Lib.hid hF
    clear ho hO' hA' hF
    by_cases hjn : j < n
    · have hjI : (j : Int) < (n : Int) := by omega
      obtain ⟨p, hp⟩ : ∃ p, P[j]? = some p := ⟨_, List.getElem?_eq_getElem (by have := HN.out; omega)⟩
      obtain ⟨g, rfl⟩ := HO3.out.some_ (by omega)
      have HP := Lib.hid hp
      obtain ⟨d, hd⟩ : ∃ d, d = holdsP p O := ⟨_, rfl⟩
      have kh := fun (x : Fam wr) => KH2.out x.w p (List.mem_of_getElem? hp) d (by rw [hd, HOA.out])
      have HT := Lib.hid (show ((P.take (j + 1)).filter fun p => holdsP p O).reverse = if d = true then p :: o else o by
        rw [take_snoc hp, List.filter_append, List.reverse_append, ← HOE.out, hd]
        by_cases e : holdsP p O = true <;> simp [e])
      have zz := fun (x : Fam wr) => (HO3.out.fr x.fr fun _ _ => id).x4 HN.out hp
      have aa := fun (x : Fam wr) => (HZ1.out x.w (F3.out.trans x.fr)).c3
      clear hp hd
      obtain ⟨⟨us, uh, ul⟩, um⟩ := p
      unfold pxV at kh
      simp only at kh zz HT
      have z0 := fun x => (zz x).1
      have z1 := fun x => (zz x).2.1
      have z2 := fun x => (zz x).2.2.1
      have z3 := fun x => (zz x).2.2.2
      have a0 := fun x => (aa x).1
      have a1 := fun x => (aa x).2.1
      have a2 := fun x => (aa x).2.2
      clear zz aa
      go_wp2_with fail
      refine wp_region_fam (by kernel_rfl) (by kernel_rfl) ?_
      repeat (go_big_quiet_step ((go_at_call 54; exact fam_call (kh _))))
      first | refine wpQuiet_nil ?_ | (go_big_quiet_want; go_big_quiet_op; done)
      rintro _ ⟨xq, rfl⟩
      have HO4 := Lib.hid (HO'.out.fr xq.fr fun _ _ => id)
      have F4 := Lib.hid (FW.out.trans xq.fr)
      have y0 := z0 xq
      have y1 := z1 xq
      have y2 := z2 xq
      have y3 := z3 xq
      clear z0 z1 z2 z3 a0 a1 a2 kh HO'
      generalize xq.w = w4 at *
      cases d with
      | false =>
        have HT2 := Lib.hid (HT.out.trans (if_neg (by simp)))
        clear HT
        go_wp2_with fail
        go_roundw
        case rel => exact ⟨j + 1, c', A', o, by omega, by go_num, rfl, HT2.out.symm, HO4.out, HA'.out, F4.out⟩
        case measure => (simp [intOf]; try omega)
      | true =>
        have HT2 := Lib.hid (HT.out.trans (if_pos rfl))
        clear HT
        obtain ⟨i0, hi, hz0, hz1, hz2⟩ := info_parts infoPx
        go_wp2_with (at_builtin; refine wpList_append1 w4 rfl (.tmp 23) (.tmp 28) 44 rfl 32 i0 _ 4 32 Tryz.underlying44 hi hz0 hz1 hz2 rfl (by omega) none 0 0 [] rfl (Own.nil_ _ _ _) (Px.cs ⟨⟨us, uh, ul⟩, um⟩) rfl rfl ?_ ?_ ?_ ?_)
        · intro u hu; simp [Px.cs] at hu; rcases hu with rfl | rfl | rfl | rfl <;> rfl
        · omega
        · omega
        · intro g' c2 w5 ho f7 hg'
          have e1 : Px.cs ⟨⟨us, uh, ul⟩, um⟩ = flat [(⟨⟨us, uh, ul⟩, um⟩ : Px)] := by rw [flat_one]; rfl
          rw [e1] at ho
          have HOM := Lib.hid ho
          have f7' : Fr N0 w4 w5 := f7.mono fun i _ h => by simp at h
          have F5 := Lib.hid (F4.out.trans f7')
          have HO5 := Lib.hid (HO4.out.fr f7' fun _ _ => id)
          have hg2 : w4.heap.size ≤ g' := by simpa using hg'
          have HG5 := Lib.hid (show w2.heap.size ≤ g' ∧ w1.heap.size ≤ g' from by
            have h1 := F2.out.size
            have h2 := F4.out.size
            omega)
          clear hg2
          clear ho f7 f7' hg' y0 y1 y2 y3 HO4 F4
          cases A' with
          | none =>
            obtain rfl : o = [] := by
              rcases HO5.out.2 with ⟨_, h, _⟩ | ⟨_, _, h, _⟩
              · exact List.length_eq_zero_iff.1 h
              · cases h
            have hc0 : c' = 0 := by
              rcases HO5.out.2 with ⟨_, _, h⟩ | ⟨_, _, h, _⟩
              · exact h
              · cases h
            subst hc0
            go_wp2_with (at_builtin; refine wpList_append0 _ rfl (.tmp 30) (.tmp 31) 44 rfl 32 i0 Tryz.underlying44 hi (some ⟨g', 0, none⟩) 1 c2 _ rfl HOM.out rfl ?_)
            clear hi hz0 hz1 hz2
            go_wp2_with fail
            go_roundw
            case rel => exact ⟨j + 1, c2, some ⟨g', 0, none⟩, [⟨⟨us, uh, ul⟩, um⟩], by omega, by go_num, rfl, HT2.out.symm, HOM.out, fun g e => by cases e; exact HG5.out.2, F5.out⟩
            case measure => (simp [intOf]; try omega)
          | some ad =>
            obtain ⟨g6, hg6⟩ : ∃ g, ad = ⟨g, 0, none⟩ := by
              rcases HO5.out.2 with ⟨h, _⟩ | ⟨g, _, h, _⟩
              · cases h
              · exact ⟨g, Option.some.inj h⟩
            subst hg6
            go_wp2_with (at_builtin; refine wpList_appendM _ rfl (.tmp 30) (.tmp 31) 44 rfl 32 i0 _ 4 32 Tryz.underlying44 hi hz0 hz1 hz2 rfl (by omega) (some ⟨g', 0, none⟩) 1 c2 _ rfl HOM.out ⟨g6, 0, none⟩ o.length c' (flat o) rfl ?_ ?_ ?_ ?_ ?_ ?_)
            · rw [flat_length]
            · intro k v hk
              have hk' : k < o.length * 4 := by rw [← flat_length o]; exact (List.getElem?_eq_some_iff.1 hk).1
              have : (⟨g6, 0, none⟩ : Addr).add k = ⟨g6, k, none⟩ := by
                unfold Addr.add
                by_cases h0 : k = 0
                · subst h0; simp
                · rw [if_neg h0]; simp
              rw [this, HO5.out.cell k hk', hk]
            · exact flat_one_cell o
            · omega
            · omega
            · intro A6 c6 w6 ho6 hf6 hA6
              have e2 : flat [(⟨⟨us, uh, ul⟩, um⟩ : Px)] ++ flat o = flat ((⟨⟨us, uh, ul⟩, um⟩ : Px) :: o) := by rw [← flat_append]; rfl
              have e3 : 1 + o.length = ((⟨⟨us, uh, ul⟩, um⟩ : Px) :: o).length := by simp; omega
              rw [e2, e3] at ho6
              rw [e3]
              have HO6 := Lib.hid ho6
              have F6 := Lib.hid (show Fr N0 w2 w6 from F5.out.step hf6 fun i hi => .inr (by cases hi; exact HG5.out.1))
              have HA6 := Lib.hid (show ∀ g, A6 = some ⟨g, 0, none⟩ → w1.heap.size ≤ g from fun g e => by
                rcases hA6 with h | ⟨g2, h, h2⟩
                · rw [h] at e
                  cases e
                  exact HG5.out.2
                · rw [h] at e
                  cases e
                  have h1 := F2.out.size
                  have h3 := F5.out.size
                  omega)
              clear ho6 hf6 hA6
              go_wp2_with fail
              go_roundw
              case rel => exact ⟨j + 1, c6, A6, ⟨⟨us, uh, ul⟩, um⟩ :: o, by omega, by go_num, rfl, HT2.out.symm, HO6.out, HA6.out, F6.out⟩
              case measure => (simp [intOf]; try omega)
    · have hjI : ¬ (j : Int) < (n : Int) := by omega
      have HOL := Lib.hid (show o = K by rw [HOV.out, HOE.out, List.take_of_length_le (by have := HN.out; omega)])
      clear HOE
      go_wp2_with fail
      go_ret
      obtain rfl := HOL.out
      exact ⟨_, rfl, A', c', rfl, HO'.out, HF1.out.trans F3.out, fun g e => Nat.le_trans HF1.out.size (HA'.out g e)⟩
end
end Go.Proofs.YtnklbeigikcfkaaGreatDoor
namespace Go.Proofs.YtnklbeigikcfkaaGreatDoor
open Go.Proofs Go.RowKit
theorem addr_add0 (g k : Nat) : (⟨g, 0, none⟩ : Addr).add k = ⟨g, k, none⟩ := by
  unfold Addr.add
  by_cases h0 : k = 0
  · subst h0; simp
  · rw [if_neg h0]; simp
theorem addr_addO (g o k : Nat) : (⟨g, o, none⟩ : Addr).add k = ⟨g, o + k, none⟩ := by
  unfold Addr.add
  by_cases h0 : k = 0
  · subst h0; simp
  · rw [if_neg h0]
theorem src_take {w : World} {g n c i : Nat} {l : List Td} {e : TypeId} (h : Own w e 11 (some ⟨g, 0, none⟩) n c (flat l)) (hn : l.length = n) (hi : i ≤ n) : ∀ k v, (flat (l.take i))[k]? = some v → w.cell? ((⟨g, 0, none⟩ : Addr).add k) = some v := by
  intro k v hk
  have hlt : k < i * 11 := by
    have := (List.getElem?_eq_some_iff.1 hk).1
    rw [flat_length, List.length_take] at this
    omega
  rw [addr_add0, h.cell k (by omega), ← hk, ← flat_take, List.getElem?_take, if_pos hlt]
theorem src_drop {w : World} {g n c i : Nat} {l : List Td} {e : TypeId} (h : Own w e 11 (some ⟨g, 0, none⟩) n c (flat l)) (hn : l.length = n) (hi : i < n) : ∀ k v, (flat (l.drop i))[k]? = some v → w.cell? ((⟨g, i * 11, none⟩ : Addr).add k) = some v := by
  intro k v hk
  have hlt : k < (n - i) * 11 := by
    have := (List.getElem?_eq_some_iff.1 hk).1
    rw [flat_length, List.length_drop] at this
    omega
  rw [addr_addO, h.cell _ (by omega), ← hk, ← flat_drop, List.getElem?_drop]
theorem RfTo.after {w w2 w3 : World} {q : Nat} {F : Nat → Prop} {L : List Td} (hf : Fr N0 w w2) (h : RfTo w2 q F L w3) : RfTo w q F L w3 := by
  obtain ⟨F', h1, h2, h3⟩ := h
  exact ⟨F', h1, fun i hi => (h2 i hi).imp_right fun k => Nat.le_trans hf.size k, (hf.mono fun _ _ h => h.elim).trans h3⟩
section
variable {w : World}
set_option maxHeartbeats 12800000 in
set_option maxRecDepth 100000 in
theorem rf_wo (q : Nat) (F : Nat → Prop) (L : List Td) (i : Nat) (h : Rf w q F L) (hi : i < L.length) (hr : RowT clsA (L.eraseIdx i)) :
    Calls Tryz.prog 50 #[.pointer (some ⟨q, 0, none⟩), .int .i64 (i : Int)] w fun e w' => e = .returned (.tuple #[]) ∧ RfTo w q F (L.eraseIdx i) w' := by
  have HH := Lib.hid h
  have HRR := Lib.hid hr
  obtain ⟨A, c, hB, hO, _⟩ := h.mem
  have hle := len_le h.row
  obtain ⟨n, hn⟩ : ∃ n, n = L.length := ⟨_, rfl⟩
  rw [← hn] at hB hO hle hi
  have hle2 := hO.len_le
  obtain ⟨g, rfl⟩ := hO.some_ (by omega)
  have HN := Lib.hid hn.symm
  have HB := Lib.hid hB
  have HO := Lib.hid hO
  have hqw := hB.lt
  have cr := hB.c1'
  clear h hr hB hO hn
  have hic : i ≤ c := by omega
  have hiI : (i : Int) < (n : Int) := by omega
  have hnc : (n : Int) ≤ (c : Int) := by omega
  obtain ⟨i0, hi0, hz0, hz1, hz2⟩ := info_parts infoTd
  go_enter Tryz.func50, Tryz.ntmps50
  go_wp2_with (at_builtin; refine wpList_appendM w rfl (.tmp 5) (.tmp 11) 62 rfl 88 i0 _ 11 88 Tryz.underlying62 hi0 hz0 hz1 hz2 rfl (by omega) none 0 0 [] rfl (Own.nil_ _ _ _) ⟨g, 0, none⟩ i c (flat (L.take i)) rfl ?_ ?_ ?_ ?_ ?_ ?_)
  · rw [flat_length, List.length_take]; have := HN.out; omega
  · exact src_take HO.out HN.out (by omega)
  · exact flat_one_cell _
  · omega
  · omega
  · intro A1 c1 w1 ho1 hf1 hA1
    have hf1' : Fr N0 w w1 := hf1.mono fun i _ h => by simp at h
    have HA1 := Lib.hid (show ∀ g, A1 = some ⟨g, 0, none⟩ → w.heap.size ≤ g from fun g' e => by
      rcases hA1 with h | ⟨g2, h, h2⟩
      · rw [h] at e
        cases e
      · rw [h] at e
        cases e
        exact h2)
    have F1 := Lib.hid hf1'
    have HO1 := Lib.hid ho1
    have cr := (HB.out.fr hf1' id).c1'
    have hqw1 : q < w1.heap.size := (HB.out.fr hf1' id).lt
    have hOw := HO.out.fr hf1' fun _ _ => id
    have HE := Lib.hid (show flat (L.take i) ++ flat (L.drop (i + 1)) = flat (L.eraseIdx i) by rw [← flat_append, List.eraseIdx_eq_take_drop_succ])
    have hEL : (L.eraseIdx i).length = n - 1 := by rw [List.length_eraseIdx, if_pos (by have := HN.out; omega)]; have := HN.out; omega
    have HEL := Lib.hid hEL
    have hi1 : IntKind.i64.wrap ((i : Int) + 1) = (i : Int) + 1 := IntWalk.i64_in _ (by omega)
    have hin : ((i : Int) + 1).toNat = i + 1 := by omega
    have hi1n : i + 1 ≤ n := by omega
    have hi1I : (i : Int) + 1 ≤ (n : Int) := by omega
    have hi1c : (i : Int) + 1 ≤ (c : Int) := by omega
    have hi0I : 0 ≤ (i : Int) + 1 := by omega
    have hcase : (i + 1 < n ∧ ¬ c = i + 1) ∨ (i + 1 = n ∧ ¬ c = i + 1) ∨ (i + 1 = n ∧ c = i + 1) := by omega
    clear ho1 hf1 hf1' hA1
    rcases hcase with ⟨hlt, hc⟩ | ⟨rfl, hc⟩ | ⟨rfl, rfl⟩
    · have HSRC := Lib.hid (src_drop hOw HN.out hlt)
      have HDL := Lib.hid (show (L.drop (i + 1)).length = n - (i + 1) by rw [List.length_drop, HN.out])
      clear hOw
      go_wp2_with (at_builtin; refine wpList_appendM w1 rfl (.tmp 14) (.tmp 21) 62 rfl 88 i0 _ 11 88 Tryz.underlying62 hi0 hz0 hz1 hz2 rfl (by omega) A1 i c1 _ rfl HO1.out ⟨g, (i + 1) * 11, none⟩ (n - (i + 1)) (c - (i + 1)) (flat (L.drop (i + 1))) rfl ?_ ?_ ?_ ?_ ?_ ?_)
      · rw [flat_length, HDL.out]
      · exact HSRC.out
      · exact flat_one_cell _
      · omega
      · omega
      · intro A2 c2 w2 ho2 hf2 hA2
        have e1 : i + (n - (i + 1)) = (L.eraseIdx i).length := by have := HEL.out; omega
        have ho3 : Own w2 88 11 A2 (L.eraseIdx i).length c2 (flat (L.eraseIdx i)) := by
          rw [← HE.out, ← e1]
          exact ho2
        have HO3 := Lib.hid ho3
        have F2 := Lib.hid (show Fr N0 w w2 from F1.out.step hf2 fun i hi => .inr (HA1.out i hi))
        have HA2 := Lib.hid (show ∀ g, A2 = some ⟨g, 0, none⟩ → w.heap.size ≤ g from fun g' e => by
          rcases hA2 with h | ⟨g2, h, h2⟩
          · exact HA1.out g' (h.symm.trans e)
          · rw [h] at e
            cases e
            exact Nat.le_trans F1.out.size h2)
        have cr := (HB.out.fr F2.out id).c1'
        have hqw2 : q < w2.heap.size := (HB.out.fr F2.out id).lt
        have hqf := (HB.out.fr F2.out id).frozen 0
        have E1 := Lib.hid e1
        clear ho2 hf2 hA2 ho3 e1 hi0 hz0 hz1 hz2 HO1 F1 HA1 hin hi1
        go_wp2_with fail
        go_end0
        have k := HH.out.new_ F2.out HO3.out HA2.out HRR.out
        rw [← E1.out] at k
        exact ⟨rfl, k⟩
    · have HDL := Lib.hid (show flat (L.drop (i + 1)) = [] by rw [List.drop_of_length_le (by have := HN.out; omega)]; rfl)
      clear hOw
      go_wp2_with (at_builtin; refine wpList_appendM w1 rfl (.tmp 14) (.tmp 21) 62 rfl 88 i0 _ 11 88 Tryz.underlying62 hi0 hz0 hz1 hz2 rfl (by omega) A1 i c1 _ rfl HO1.out ⟨g, (i + 1) * 11, none⟩ 0 (c - (i + 1)) [] rfl ?_ ?_ ?_ ?_ ?_ ?_)
      · rfl
      · nofun
      · nofun
      · omega
      · omega
      · intro A2 c2 w2 ho2 hf2 hA2
        have e1 : i = (L.eraseIdx i).length := by have := HEL.out; omega
        have ho3 : Own w2 88 11 A2 (L.eraseIdx i).length c2 (flat (L.eraseIdx i)) := by
          rw [← HE.out, ← e1]
          rw [HDL.out]; simpa using ho2
        have HO3 := Lib.hid ho3
        have F2 := Lib.hid (show Fr N0 w w2 from F1.out.step hf2 fun i hi => .inr (HA1.out i hi))
        have HA2 := Lib.hid (show ∀ g, A2 = some ⟨g, 0, none⟩ → w.heap.size ≤ g from fun g' e => by
          rcases hA2 with h | ⟨g2, h, h2⟩
          · exact HA1.out g' (h.symm.trans e)
          · rw [h] at e
            cases e
            exact Nat.le_trans F1.out.size h2)
        have cr := (HB.out.fr F2.out id).c1'
        have hqw2 : q < w2.heap.size := (HB.out.fr F2.out id).lt
        have hqf := (HB.out.fr F2.out id).frozen 0
        have E1 := Lib.hid e1
        clear ho2 hf2 hA2 ho3 e1 hi0 hz0 hz1 hz2 HO1 F1 HA1 hin hi1
        go_wp2_with fail
        go_end0
        have k := HH.out.new_ F2.out HO3.out HA2.out HRR.out
        rw [← E1.out] at k
        exact ⟨rfl, k⟩
    · have HDL := Lib.hid (show flat (L.drop (i + 1)) = [] by rw [List.drop_of_length_le (by have := HN.out; omega)]; rfl)
      clear hOw
      go_wp2_with (at_builtin; refine wpList_appendM w1 rfl (.tmp 14) (.tmp 21) 62 rfl 88 i0 _ 11 88 Tryz.underlying62 hi0 hz0 hz1 hz2 rfl (by omega) A1 i c1 _ rfl HO1.out ⟨g, 0, none⟩ 0 0 [] rfl ?_ ?_ ?_ ?_ ?_ ?_)
      · rfl
      · nofun
      · nofun
      · omega
      · omega
      · intro A2 c2 w2 ho2 hf2 hA2
        have e1 : i = (L.eraseIdx i).length := by have := HEL.out; omega
        have ho3 : Own w2 88 11 A2 (L.eraseIdx i).length c2 (flat (L.eraseIdx i)) := by
          rw [← HE.out, ← e1]
          rw [HDL.out]; simpa using ho2
        have HO3 := Lib.hid ho3
        have F2 := Lib.hid (show Fr N0 w w2 from F1.out.step hf2 fun i hi => .inr (HA1.out i hi))
        have HA2 := Lib.hid (show ∀ g, A2 = some ⟨g, 0, none⟩ → w.heap.size ≤ g from fun g' e => by
          rcases hA2 with h | ⟨g2, h, h2⟩
          · exact HA1.out g' (h.symm.trans e)
          · rw [h] at e
            cases e
            exact Nat.le_trans F1.out.size h2)
        have cr := (HB.out.fr F2.out id).c1'
        have hqw2 : q < w2.heap.size := (HB.out.fr F2.out id).lt
        have hqf := (HB.out.fr F2.out id).frozen 0
        have E1 := Lib.hid e1
        clear ho2 hf2 hA2 ho3 e1 hi0 hz0 hz1 hz2 HO1 F1 HA1 hin hi1
        go_wp2_with fail
        go_end0
        have k := HH.out.new_ F2.out HO3.out HA2.out HRR.out
        rw [← E1.out] at k
        exact ⟨rfl, k⟩
theorem way_erase {L : List Td} {p : Px} {x : Pa} (h : RowT clsA L) {i : Nat} (hi : i < L.length) (hat : ∀ u, L[i]? = some u → wayT p x u = true) : noW p x L = L.eraseIdx i ∧ L.any (wayT p x) = true := by
  obtain ⟨u, hu⟩ : ∃ u, L[i]? = some u := ⟨_, List.getElem?_eq_getElem hi⟩
  exact ⟨noW_erase h.one hu (hat u hu), List.any_eq_true.2 ⟨u, List.mem_of_getElem? hu, hat u hu⟩⟩
theorem way_none {L : List Td} {p : Px} {x : Pa} {i : Nat} (hi : ¬ i < L.length) (hbef : ∀ j u, j < i → L[j]? = some u → wayT p x u = false) : L.any (wayT p x) = false := by
  rw [List.any_eq_false]
  intro u hu
  obtain ⟨j, hj⟩ := List.getElem?_of_mem hu
  have := (List.getElem?_eq_some_iff.1 hj).1
  rw [hbef j u (by omega) hj]
  simp
set_option maxHeartbeats 12800000 in
set_option maxRecDepth 100000 in
theorem rf_drop (q : Nat) (Ft : Nat → Prop) (L : List Td) (p : Px) (x : Pa) (h : Rf w q Ft L) :
    Calls Tryz.prog 26 #[.pointer (some ⟨q, 0, none⟩), pxV p, paV x] w fun e w' => e = .returned (.int .i64 (dropT L p x).2) ∧ RfTo w q Ft (dropT L p x).1 w' := by
  obtain ⟨i, hi, hbef, hat⟩ := wayT_find p x L
  have HH := Lib.hid h
  have hle := len_le h.row
  by_cases hlt : i < L.length
  · obtain ⟨he, hany⟩ := way_erase h.row hlt hat
    have hd : dropT L p x = (L.eraseIdx i, 0) := by
      unfold dropT
      rw [if_pos hany]
      unfold noW at he
      rw [he]
    have hr : RowT clsA (L.eraseIdx i) := by have := h.row.drop p x; rwa [hd] at this
    rw [hd]
    have KW := Lib.hid fun (W : World) (hW : Fr N0 w W) => rf_way (w := W) q Ft L p x (h.n0 hW) i hi hbef hat (i : Int) (if_pos hlt).symm
    have KD := Lib.hid fun (W : World) (hW : Fr N0 w W) => rf_wo (w := W) q Ft L i (h.n0 hW) hlt hr
    clear h hi hbef hat hd he hany hr
    obtain ⟨K, hK⟩ : ∃ K, K = L.eraseIdx i := ⟨_, rfl⟩
    rw [← hK] at KD ⊢
    clear hK
    obtain ⟨⟨s, h1, l⟩, m⟩ := p
    obtain ⟨xp, xm, ⟨xs, xh, xl⟩, xo, xa⟩ := x
    unfold pxV paV at KW ⊢
    simp only at KW ⊢
    go_enter Tryz.func26, Tryz.ntmps26
    go_wp2_with fail
    have HA1 := Lib.hid ((Blk.new w 32 #[Value.bool s, Value.int .u64 (h1 : Int), Value.int .u64 (l : Int), Value.int .i64 m]).alloc (.cells #[Value.int .i64 xp, Value.int .i64 xm, Value.bool xs, Value.int .u64 (xh : Int), Value.int .u64 (xl : Int), Value.int .i64 xo, Value.bool xa] 34))
    have HA2 := Lib.hid (Blk.alloc2 w (.cells #[Value.bool s, Value.int .u64 (h1 : Int), Value.int .u64 (l : Int), Value.int .i64 m] 32) 34 #[Value.int .i64 xp, Value.int .i64 xm, Value.bool xs, Value.int .u64 (xh : Int), Value.int .u64 (xl : Int), Value.int .i64 xo, Value.bool xa])
    have HF1 := Lib.hid (Fr.alloc (Fr.alloc (Fr.refl N0 w) (.cells #[Value.bool s, Value.int .u64 (h1 : Int), Value.int .u64 (l : Int), Value.int .i64 m] 32)) (.cells #[Value.int .i64 xp, Value.int .i64 xm, Value.bool xs, Value.int .u64 (xh : Int), Value.int .u64 (xl : Int), Value.int .i64 xo, Value.bool xa] 34))
    generalize World.alloc (w.alloc _) _ = w1 at *
    obtain ⟨g2, hg2⟩ : ∃ g2, g2 = w.heap.size + 1 := ⟨_, rfl⟩
    rw [← hg2] at HA2 ⊢
    have HG2 : Hid (w.heap.size ≤ g2) := Lib.hid (by omega)
    obtain ⟨g1, hg1⟩ : ∃ g1, g1 = w.heap.size := ⟨_, rfl⟩
    rw [← hg1] at HA1 ⊢
    have HG1 : Hid (w.heap.size ≤ g1) := Lib.hid (by omega)
    have HN1_2 : Hid (g1 ≠ g2) := Lib.hid (by omega)
    clear hg1 hg2
    have HZ1 : Hid (∀ W, Fr N0 w1 W → Blk W g1 32 #[Value.bool s, Value.int .u64 (h1 : Int), Value.int .u64 (l : Int), Value.int .i64 m]) := Lib.hid fun W hf => HA1.out.fr hf id
    have HZ2 : Hid (∀ W, Fr N0 w1 W → Blk W g2 34 #[Value.int .i64 xp, Value.int .i64 xm, Value.bool xs, Value.int .u64 (xh : Int), Value.int .u64 (xl : Int), Value.int .i64 xo, Value.bool xa]) := Lib.hid fun W hf => HA2.out.fr hf id
    have F := Lib.hid (Fr.refl N0 w1)
    obtain ⟨z1_0, z1_1, z1_2, z1_3⟩ := (HZ1.out _ F.out).c4
    obtain ⟨z2_0, z2_1, z2_2, z2_3, z2_4, z2_5, z2_6⟩ := (HZ2.out _ F.out).c7
    refine (KW.out _ HF1.out).mono ?_
    rintro e w2 ⟨rfl, hf⟩
    have F2 := Lib.hid (HF1.out.trans hf)
    clear hf z1_0 z1_1 z1_2 z1_3 z2_0 z2_1 z2_2 z2_3 z2_4 z2_5 z2_6
    have hnn : ¬ (i : Int) < 0 := by omega
    go_wp2_with fail
    refine (KD.out _ F2.out).mono ?_
    rintro e w3 ⟨rfl, ht⟩
    have HT := Lib.hid (ht.after F2.out)
    clear ht
    go_wp2_with fail
    go_ret
    exact ⟨rfl, HT.out⟩
  · have hany := way_none hlt hbef
    have hd : dropT L p x = (L, 142) := by
      unfold dropT
      rw [if_neg (by rw [hany]; simp)]
    rw [hd]
    have KW := Lib.hid fun (W : World) (hW : Fr N0 w W) => rf_way (w := W) q Ft L p x (h.n0 hW) i hi hbef hat (-1) (if_neg hlt).symm
    clear h hi hbef hat hd hany hlt
    obtain ⟨⟨s, h1, l⟩, m⟩ := p
    obtain ⟨xp, xm, ⟨xs, xh, xl⟩, xo, xa⟩ := x
    unfold pxV paV at KW ⊢
    simp only at KW ⊢
    go_enter Tryz.func26, Tryz.ntmps26
    go_wp2_with fail
    have HA1 := Lib.hid ((Blk.new w 32 #[Value.bool s, Value.int .u64 (h1 : Int), Value.int .u64 (l : Int), Value.int .i64 m]).alloc (.cells #[Value.int .i64 xp, Value.int .i64 xm, Value.bool xs, Value.int .u64 (xh : Int), Value.int .u64 (xl : Int), Value.int .i64 xo, Value.bool xa] 34))
    have HA2 := Lib.hid (Blk.alloc2 w (.cells #[Value.bool s, Value.int .u64 (h1 : Int), Value.int .u64 (l : Int), Value.int .i64 m] 32) 34 #[Value.int .i64 xp, Value.int .i64 xm, Value.bool xs, Value.int .u64 (xh : Int), Value.int .u64 (xl : Int), Value.int .i64 xo, Value.bool xa])
    have HF1 := Lib.hid (Fr.alloc (Fr.alloc (Fr.refl N0 w) (.cells #[Value.bool s, Value.int .u64 (h1 : Int), Value.int .u64 (l : Int), Value.int .i64 m] 32)) (.cells #[Value.int .i64 xp, Value.int .i64 xm, Value.bool xs, Value.int .u64 (xh : Int), Value.int .u64 (xl : Int), Value.int .i64 xo, Value.bool xa] 34))
    generalize World.alloc (w.alloc _) _ = w1 at *
    obtain ⟨g2, hg2⟩ : ∃ g2, g2 = w.heap.size + 1 := ⟨_, rfl⟩
    rw [← hg2] at HA2 ⊢
    have HG2 : Hid (w.heap.size ≤ g2) := Lib.hid (by omega)
    obtain ⟨g1, hg1⟩ : ∃ g1, g1 = w.heap.size := ⟨_, rfl⟩
    rw [← hg1] at HA1 ⊢
    have HG1 : Hid (w.heap.size ≤ g1) := Lib.hid (by omega)
    have HN1_2 : Hid (g1 ≠ g2) := Lib.hid (by omega)
    clear hg1 hg2
    have HZ1 : Hid (∀ W, Fr N0 w1 W → Blk W g1 32 #[Value.bool s, Value.int .u64 (h1 : Int), Value.int .u64 (l : Int), Value.int .i64 m]) := Lib.hid fun W hf => HA1.out.fr hf id
    have HZ2 : Hid (∀ W, Fr N0 w1 W → Blk W g2 34 #[Value.int .i64 xp, Value.int .i64 xm, Value.bool xs, Value.int .u64 (xh : Int), Value.int .u64 (xl : Int), Value.int .i64 xo, Value.bool xa]) := Lib.hid fun W hf => HA2.out.fr hf id
    have F := Lib.hid (Fr.refl N0 w1)
    obtain ⟨z1_0, z1_1, z1_2, z1_3⟩ := (HZ1.out _ F.out).c4
    obtain ⟨z2_0, z2_1, z2_2, z2_3, z2_4, z2_5, z2_6⟩ := (HZ2.out _ F.out).c7
    refine (KW.out _ HF1.out).mono ?_
    rintro e w2 ⟨rfl, hf⟩
    have F2 := Lib.hid (HF1.out.trans hf)
    clear hf z1_0 z1_1 z1_2 z1_3 z2_0 z2_1 z2_2 z2_3 z2_4 z2_5 z2_6
    go_wp2_with fail
    go_ret
    exact ⟨rfl, HH.out.to F2.out⟩
theorem flush_snoc (L : List Td) (u : Td) (q : Int) : flushT (L ++ [u]) q = if u.2.proto = q then flushT L q else flushT L q ++ [u] := by
  unfold flushT
  rw [List.filter_append]
  by_cases h : u.2.proto = q
  · rw [if_pos h, List.filter_cons, if_neg (by simp [h])]
    simp
  · rw [if_neg h, List.filter_cons, if_pos (by simp [h])]
    simp
set_option maxHeartbeats 12800000 in
set_option maxRecDepth 100000 in
theorem rf_flush (q : Nat) (Ft : Nat → Prop) (L : List Td) (qq : Int) (h : Rf w q Ft L) :
    Calls Tryz.prog 27 #[.pointer (some ⟨q, 0, none⟩), .int .i64 qq] w fun e w' => e = .returned (.int .i64 ((L.length : Int) - ((flushT L qq).length : Int))) ∧ RfTo w q Ft (flushT L qq) w' := by
  have HH := Lib.hid h
  obtain ⟨A, c, hB, hO, _⟩ := h.mem
  have hle := len_le h.row
  have HRW := Lib.hid (h.row.flush qq)
  obtain ⟨n, hn⟩ : ∃ n, n = L.length := ⟨_, rfl⟩
  rw [← hn] at hB hO hle ⊢
  have HN := Lib.hid hn.symm
  have HB := Lib.hid hB
  have HO := Lib.hid hO
  have hqw := hB.lt
  clear h hB hO hn
  have PS := Lib.hid fun (j : Nat) (u : Td) (hj : L[j]? = some u) => (congrArg (fun l => flushT l qq) (take_snoc hj)).trans (flush_snoc (L.take j) u qq)
  obtain ⟨K, hK⟩ : ∃ K, K = flushT L qq := ⟨_, rfl⟩
  rw [← hK] at HRW ⊢
  have HK := Lib.hid hK
  clear hK
  go_enter Tryz.func27, Tryz.ntmps27
  go_wp2_with fail
  go_loopw [5, 6] (fun vo vi wr => ∃ (j c : Nat) (A : Option Addr) (o : List Td), j ≤ n ∧ vi = .int .i64 (j : Int) ∧ vo = .slice A o.length c ∧ o = flushT (L.take j) qq ∧ Own wr 88 11 A o.length c (flat o) ∧ (∀ g, A = some ⟨g, 0, none⟩ → w.heap.size ≤ g) ∧ Fr N0 w wr) (fun _ vi _ => n - (intOf vi).toNat)
  case atStart => exact ⟨0, 0, none, [], Nat.zero_le _, rfl, rfl, by simp [flushT], Own.nil_ _ _ _, nofun, Fr.refl _ _⟩
  case round =>
    obtain ⟨j, c', A', o, hj, rfl, rfl, ho, hO', hA', hF⟩ := hrel
    have hol : o.length ≤ n := by
      rw [ho]
      have h1 : (flushT (L.take j) qq).length ≤ (L.take j).length := List.length_filter_le _ _
      rw [List.length_take] at h1
      have := HN.out
      omega
    have HOE := Lib.hid ho
    have HO' := Lib.hid hO'
    have HA' := Lib.hid hA'
    have F2 := Lib.hid hF
    have cr := (HB.out.fr hF id).c1'
    have hqr : q < wr.heap.size := (HB.out.fr hF id).lt
    clear ho hO' hA' hF
    by_cases hjn : j < n
    · have hjI : (j : Int) < (n : Int) := by omega
      obtain ⟨u, hu⟩ : ∃ u, L[j]? = some u := ⟨_, List.getElem?_eq_getElem (by have := HN.out; omega)⟩
      obtain ⟨g, rfl⟩ := HO.out.some_ (by omega)
      obtain ⟨⟨y0, y1, y2, y3⟩, y4, y5, y6, y7, y8, y9, y10⟩ := (HO.out.fr F2.out fun _ _ => id).e11 HN.out hu
      have hps := PS.out j u hu
      rw [← HOE.out] at hps
      have HPS := Lib.hid hps
      clear hu hps
      by_cases hup : u.2.proto = qq
      · have HPO := Lib.hid (HPS.out.trans (if_pos hup))
        have t1 : (u.2.proto != qq) = false := by rw [bne_eq_false_iff_eq]; exact hup
        have t2 : (u.2.proto == qq) = true := by rw [beq_iff_eq]; exact hup
        clear HPS hup
        obtain ⟨⟨⟨us, uh, ul⟩, um⟩, ⟨xp, xm, ⟨xs, xh, xl⟩, xo, xa⟩⟩ := u
        simp only at y0 y1 y2 y3 y4 y5 y6 y7 y8 y9 y10 t1 t2
        go_wp2_with fail
        go_roundw
        case rel => exact ⟨j + 1, c', A', o, by omega, by go_num, rfl, HPO.out.symm, HO'.out, HA'.out, F2.out⟩
        case measure => (simp [intOf]; try omega)
      · have HPO := Lib.hid (HPS.out.trans (if_neg hup))
        have t1 : (u.2.proto != qq) = true := by rw [bne_iff_ne]; exact hup
        have t2 : (u.2.proto == qq) = false := by rw [beq_eq_false_iff_ne]; exact hup
        clear HPS hup
        obtain ⟨⟨⟨us, uh, ul⟩, um⟩, ⟨xp, xm, ⟨xs, xh, xl⟩, xo, xa⟩⟩ := u
        simp only at y0 y1 y2 y3 y4 y5 y6 y7 y8 y9 y10 t1 t2
        obtain ⟨i0, hi, hz0, hz1, hz2⟩ := info_parts infoTd
        go_wp2_with (at_builtin; refine wpList_append1 wr rfl (.tmp 28) (.tmp 36) 62 rfl 88 i0 _ 11 88 Tryz.underlying62 hi hz0 hz1 hz2 rfl (by omega) A' o.length c' _ rfl HO'.out (Cells.cs (α := Td) (⟨⟨⟨us, uh, ul⟩, um⟩, ⟨xp, xm, ⟨xs, xh, xl⟩, xo, xa⟩⟩ : Td)) rfl rfl ?_ ?_ ?_ ?_)
        · exact cellsTd.one _
        · omega
        · omega
        · intro g' c2 w5 ho f7 hg'
          have e1 : flat o ++ Cells.cs (α := Td) (⟨⟨⟨us, uh, ul⟩, um⟩, ⟨xp, xm, ⟨xs, xh, xl⟩, xo, xa⟩⟩ : Td) = flat (o ++ [(⟨⟨⟨us, uh, ul⟩, um⟩, ⟨xp, xm, ⟨xs, xh, xl⟩, xo, xa⟩⟩ : Td)]) := by rw [flat_append, flat_one]
          rw [e1] at ho
          have HO5 := Lib.hid ho
          have F5 := Lib.hid (F2.out.step f7 fun i hi => .inr (HA'.out i hi))
          have HA5 := Lib.hid (show ∀ g, some (⟨g', 0, none⟩ : Addr) = some ⟨g, 0, none⟩ → w.heap.size ≤ g from by
            intro g e
            cases e
            rcases hg' with k | k
            · exact HA'.out _ k
            · exact Nat.le_trans F2.out.size k)
          have hl1 : o.length + 1 = (o ++ [(⟨⟨⟨us, uh, ul⟩, um⟩, ⟨xp, xm, ⟨xs, xh, xl⟩, xo, xa⟩⟩ : Td)]).length := by simp
          clear ho f7 hg' y0 y1 y2 y3 y4 y5 y6 y7 y8 y9 y10 hi hz0 hz1 hz2 HO' F2 HA' cr t1 t2 e1 hqr
          go_wp2_with fail
          go_roundw
          case rel => exact ⟨j + 1, c2, some ⟨g', 0, none⟩, o ++ [(⟨⟨⟨us, uh, ul⟩, um⟩, ⟨xp, xm, ⟨xs, xh, xl⟩, xo, xa⟩⟩ : Td)], by omega, by go_num, by rw [← hl1], HPO.out.symm, by rw [← hl1]; exact HO5.out, HA5.out, F5.out⟩
          case measure => (simp [intOf]; try omega)
    · have hjI : ¬ (j : Int) < (n : Int) := by omega
      have HOL := Lib.hid (show o = K by rw [HK.out, HOE.out, List.take_of_length_le (by have := HN.out; omega)])
      have hqf := (HB.out.fr F2.out id).frozen 0
      have hwr : IntKind.i64.wrap ((n : Int) - (o.length : Int)) = (n : Int) - (o.length : Int) := IntWalk.i64_in _ (by omega)
      clear HOE
      go_wp2_with fail
      go_ret
      obtain rfl := HOL.out
      exact ⟨rfl, HH.out.new_ F2.out HO'.out HA'.out HRW.out⟩
end
end Go.Proofs.YtnklbeigikcfkaaGreatDoor
