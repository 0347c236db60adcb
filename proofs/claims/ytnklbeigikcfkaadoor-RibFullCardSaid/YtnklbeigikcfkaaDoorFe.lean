/- Flush. -/
import Derived.Test.YtnklbeigikcfkaaDoorDe
import Derived.Test.YtnklbeigikcfkaaDoorQc
import Derived.Test.YtnklbeigikcfkaaDoorQd
import Derived.Deep.RegionWith
namespace Go.Proofs.YtnklbeigikcfkaaDoor
open Go.Proofs Go.RowKit Go.ChangeShapes Go.WideShapes
open Go.Maps (Keyed)
/-- Those of one who tells are gone from some prefixes. -/
def flK (q : Int) (S : List Px) (L : List Td) : List Td := L.filter fun u => !(decide (u.1 ∈ S) && decide (u.2.proto = q))
theorem flK_nil (q : Int) (L : List Td) : flK q [] L = L := List.filter_eq_self.2 fun u _ => by simp
theorem flK_all (q : Int) (L : List Td) : flK q (prefsT L) L = flushT L q := by
  unfold flK flushT
  refine List.filter_congr fun u hu => ?_
  have : u.1 ∈ prefsT L := mem_prefsT.2 ⟨u.2, hu⟩
  simp [this]
theorem flK_at {q : Int} {S : List Px} {p : Px} (h : p ∈ S) (L : List Td) : pathsT (flK q S L) p = noQ q (pathsT L p) := by
  unfold flK noQ
  rw [pathsT_filter]
  refine List.filter_congr fun x _ => ?_
  simp [h]
theorem flK_no {q : Int} {S : List Px} {p : Px} (h : p ∉ S) (L : List Td) : pathsT (flK q S L) p = pathsT L p := by
  unfold flK
  rw [pathsT_filter]
  refine List.filter_eq_self.2 fun x _ => ?_
  simp [h]
theorem flK_ne {q : Int} {S : List Px} {p p' : Px} (h : p' ≠ p) (L : List Td) : pathsT (flK q (S ++ [p]) L) p' = pathsT (flK q S L) p' := by
  by_cases k : p' ∈ S
  · rw [flK_at k, flK_at (List.mem_append_left _ k)]
  · rw [flK_no k, flK_no]
    intro hm
    rcases List.mem_append.1 hm with hm | hm
    · exact k hm
    · exact h (List.mem_singleton.1 hm)
theorem noQ_len (L : List Td) (q : Int) : (flushT L q).length ≤ L.length := List.length_filter_le _ _
theorem Own.e4 {w : World} {e : TypeId} {g n c : Nat} {l : List Px} (h : Own w e 4 (some ⟨g, 0, none⟩) n c (flat l)) (hn : l.length = n) {j : Nat} {x : Px} (hj : l[j]? = some x) :
    w.cell? ⟨g, j * 4, none⟩ = some (.bool x.ad.six) ∧ w.cell? ⟨g, j * 4 + 1, none⟩ = some (.int .u64 (x.ad.hi : Int)) ∧ w.cell? ⟨g, j * 4 + 2, none⟩ = some (.int .u64 (x.ad.lo : Int)) ∧ w.cell? ⟨g, j * 4 + 3, none⟩ = some (.int .i64 x.bits) :=
  ⟨h.elem hn hj 0 (by decide), h.elem hn hj 1 (by decide), h.elem hn hj 2 (by decide), h.elem hn hj 3 (by decide)⟩
section
variable {w : World}
/-- What stands when k prefixes were gone through. -/
structure FlI (w wr : World) (r : Nat) (Ft : Nat → Prop) (L : List Td) (q : Int) (A : Option Addr) (n c gx k : Nat) : Prop where
  rib : ∃ F', RibIs wr r F' (flK q ((prefsT L).take k) L) ∧ (∀ i, F' i → Ft i ∨ w.heap.size ≤ i) ∧ (∀ g, A = some ⟨g, 0, none⟩ → ¬ F' g) ∧ ¬ F' gx
  own : Own wr 37 4 A n c (flat (prefsT L))
  box : Blk wr gx 3 #[.int .i64 q]
  fr : Fr Ft w wr
set_option maxHeartbeats 12800000 in
set_option maxRecDepth 100000 in
theorem fls_ (r : Nat) (Ft : Nat → Prop) (L : List Td) (q : Int) (h : RibIs w r Ft L) :
    Calls Tryd.prog 23 #[.pointer (some ⟨r, 0, none⟩), .int .i64 q] w fun e w' => e = .returned (.int .i64 ((L.length : Int) - ((flushT L q).length : Int))) ∧ RibTo w r Ft (flushT L q) w' := by
  have HH := Lib.hid h
  have hb1 := Blk.new w 3 #[.int .i64 q]
  have f1 := (Fr.refl N0 w).alloc (.cells #[.int .i64 q] 3)
  have k1 := cnt_ (w := w.alloc (.cells #[.int .i64 q] 3)) r Ft L (h.n0 f1)
  have hgx : ¬ Ft w.heap.size := fun hf => by have := h.lt _ hf; omega
  have HL := Lib.hid (len_le h.row)
  have HB := Lib.hid hb1
  have HF := Lib.hid f1
  have HGX := Lib.hid hgx
  have HGXN := Lib.hid (show w.heap.size ≤ w.heap.size from Nat.le_refl _)
  clear h hb1 f1 hgx
  go_enter Tryd.func23, Tryd.ntmps23
  go_wp2_with fail
  generalize w.alloc (.cells #[.int .i64 q] 3) = w1 at *
  obtain ⟨gx, hgx⟩ : ∃ g, g = w.heap.size := ⟨_, rfl⟩
  rw [← hgx] at HB HGX ⊢
  clear hgx
  refine k1.mono ?_
  rintro e w2 ⟨rfl, hf2⟩
  have HF2 := Lib.hid (HF.out.trans hf2)
  have HB2 := Lib.hid (HB.out.fr hf2 id)
  have k2 := prf_ r Ft L (HH.out.n0 HF2.out)
  clear hf2 k1
  go_wp2_with fail
  refine k2.mono ?_
  rintro e w3 ⟨v, rfl, A, c, rfl, ho, hf, hn⟩
  obtain ⟨n, hnl⟩ : ∃ n, n = (prefsT L).length := ⟨_, rfl⟩
  rw [← hnl] at ho ⊢
  have HNL := Lib.hid hnl
  have HFI := Lib.hid (show FlI w w3 r Ft L q A n c gx 0 from
    ⟨⟨Ft, by rw [List.take_zero, flK_nil]; exact HH.out.n0 (HF2.out.trans hf), fun _ => .inl, fun g hg hF => by
      have h1 := hn g hg
      have h2 := HH.out.lt _ hF
      have h3 := HF2.out.size
      omega, HGX.out⟩, ho, HB2.out.fr hf id, (HF2.out.trans hf).mono fun _ _ h => h.elim⟩)
  have hn90 : n ≤ 90 := by have := HH.out.row.many; omega
  clear ho hf hn hnl k2
  go_wp2_with fail
  go_loopw [13] (fun vi wr => ∃ k : Nat, k ≤ n ∧ vi = .int .i64 (k : Int) ∧ FlI w wr r Ft L q A n c gx k) (fun vi _ => n - (intOf vi).toNat)
  case atStart => exact ⟨0, Nat.zero_le _, rfl, HFI.out⟩
  case round =>
    obtain ⟨k, hk, rfl, hI⟩ := hrel
    clear HFI
    by_cases hkn : k < n
    · obtain ⟨⟨F', hR', hsub, hA, hgx'⟩, ho, hbx, hfr⟩ := hI
      obtain ⟨g, rfl⟩ := ho.some_ (by omega)
      obtain ⟨p, hp⟩ : ∃ p, (prefsT L)[k]? = some p := ⟨_, List.getElem?_eq_getElem (by have := HNL.out; omega)⟩
      obtain ⟨y0, y1, y2, y3⟩ := ho.e4 HNL.out.symm hp
      have hgl := ho.lt rfl
      have hpm := List.mem_of_getElem? hp
      have hpok := (HH.out.row.px hpm).1
      have hpno : p ∉ (prefsT L).take k := by
        intro hm
        obtain ⟨j, hj⟩ := List.getElem?_of_mem hm
        have hjk : j < k := by have := (List.getElem?_eq_some_iff.1 hj).1; rw [List.length_take] at this; omega
        rw [List.getElem?_take, if_pos hjk] at hj
        have hup := prefsT_up HH.out.row.up
        rw [List.pairwise_iff_getElem] at hup
        obtain ⟨h1a, h1b⟩ := List.getElem?_eq_some_iff.1 hj
        obtain ⟨h2a, h2b⟩ := List.getElem?_eq_some_iff.1 hp
        have := hup j k h1a h2a hjk
        rw [h1b, h2b, ltP_irrefl] at this
        cases this
      have hpt : pathsT (flK q ((prefsT L).take k) L) p = pathsT L p := flK_no hpno L
      have htk : (prefsT L).take (k + 1) = (prefsT L).take k ++ [p] := by
        obtain ⟨hj, e⟩ := List.getElem?_eq_some_iff.1 hp
        rw [List.take_succ_eq_append_getElem hj, e]
      obtain ⟨b, M, hBR, hM, hRM, hFb⟩ := hR'.mem
      obtain ⟨A2, n2, c2, K⟩ := look_at (b := b) hRM p hpok
      have hlen := K.len
      obtain ⟨k2, g2, hk2, rfl, hFg2, hn2⟩ : ∃ (k2 g2 : Nat), M[k2]? = some (p, (A2, n2, c2)) ∧ A2 = some ⟨g2, 0, none⟩ ∧ F' g2 ∧ 0 < n2 := by
        rcases K.how with h | ⟨_, _, h, _⟩
        · exact h
        · rw [h, hpt] at hlen
          exact absurd (List.length_eq_zero_iff.1 hlen) (paths_prefs.2 hpm)
      have hn24 : n2 ≤ 4 := by have := hR'.row.four p; omega
      have hg2g : g2 ≠ g := fun e => hA g rfl (e ▸ hFg2)
      have hbg : b ≠ g := fun e => hA g rfl (e ▸ hFb)
      have hg2x : gx ≠ g2 := fun e => hgx' (e ▸ hFg2)
      have hbx2 : gx ≠ b := fun e => hgx' (e ▸ hFb)
      have hgb : b ≠ g2 := fun e => own_ne_map K.own hM e.symm
      have hgr : r ≠ g2 := fun e => own_ne_other K.own hBR (by decide) e.symm
      have HR' := Lib.hid hR'
      have HSUB := Lib.hid hsub
      have HA := Lib.hid hA
      have HGX' := Lib.hid hgx'
      have HO := Lib.hid ho
      have HBX := Lib.hid hbx
      have HFR := Lib.hid hfr
      have HP := Lib.hid hp
      have HPT := Lib.hid hpt
      have HTK := Lib.hid htk
      have HBR := Lib.hid hBR
      have HM := Lib.hid hM
      have HRM := Lib.hid hRM
      have HFB := Lib.hid hFb
      have HK := Lib.hid K
      have HKK := Lib.hid hk2
      have HFG2 := Lib.hid hFg2
      have HG2G := Lib.hid hg2g
      have HBG := Lib.hid hbg
      have HGXB := Lib.hid hbx2
      have HGX2 := Lib.hid hg2x
      have HGB := Lib.hid hgb
      have KD := Lib.hid (show ∀ (W : World), Fr N0 wr W → Calls Tryd.prog 40 #[.slice (some ⟨g2, 0, none⟩) n2 c2, .func (.func 41) #[] #[.pointer (some ⟨gx, 0, none⟩)]] W fun e w' =>
          ∃ n', e = .returned (.slice (some ⟨g2, 0, none⟩) n' c2) ∧ Own w' 26 7 (some ⟨g2, 0, none⟩) n' c2 (flat (noQ q (pathsT (flK q ((prefsT L).take k) L) p))) ∧ Fr (fun i => i = g2) W w'
        from fun W hW => (dlf_ (w := W) gx q g2 n2 c2 (pathsT (flK q ((prefsT L).take k) L) p) (HK.out.own.fr hW fun _ _ => id) HK.out.len (by omega) (HBX.out.fr hW id) HGX2.out).mono fun e w' h => ⟨_, h⟩)
      have KK := Lib.hid fun (W : World) (hW : Fr (fun j => j = g2) wr W) (n' c' : Nat) => keep_ (w := W) r b k2 M p (some ⟨g2, 0, none⟩, n2, c2) (some ⟨g2, 0, none⟩) n' c' (HBR.out.fr hW hgr) (HM.out.fr hW hgb) HKK.out
      have hkI : (k : Int) < (n : Int) := by omega
      have hg2w := hR'.lt _ hFg2
      clear hR' hsub hA hgx' ho hbx hfr hp hpt htk hBR hM hRM hFb K hk2 hFg2 hg2g hbg hbx2 hg2x hgb hgr hpno hpm hpok hlen
      obtain ⟨⟨s, h1, l⟩, m⟩ := p
      unfold pxV at KK
      simp only at y0 y1 y2 y3 KK
      have hlook := HK.out.look ((wr.alloc (.cells #[.bool s, .int .u64 (h1 : Int), .int .u64 (l : Int), .int .i64 m] 37)).drew) ((HM.out.alloc _).drewN 1)
      unfold pxV at hlook
      simp only at hlook
      have cr := (HBR.out.alloc (.cells #[.bool s, .int .u64 (h1 : Int), .int .u64 (l : Int), .int .i64 m] 37)).c1'
      have hltr := (HBR.out.alloc (.cells #[.bool s, .int .u64 (h1 : Int), .int .u64 (l : Int), .int .i64 m] 37)).lt
      have HZ := Lib.hid (Blk.new wr 37 #[.bool s, .int .u64 (h1 : Int), .int .u64 (l : Int), .int .i64 m])
      have HFA := Lib.hid ((Fr.refl N0 wr).alloc (.cells #[.bool s, .int .u64 (h1 : Int), .int .u64 (l : Int), .int .i64 m] 37))
      obtain ⟨x0, x1, x2, x3⟩ := HZ.out.c4
      go_wp2_with fail
      generalize wr.alloc (.cells #[.bool s, .int .u64 (h1 : Int), .int .u64 (l : Int), .int .i64 m] 37) = w4 at *
      have hzg : wr.heap.size ≠ g2 := by omega
      generalize wr.heap.size = gz at *
      clear y0 y1 y2 y3
      go_region_with (first
        | (go_at_call 40; (with_reducible refine (KD.out _ HFA.out.drew).mono ?_); rintro e w5 ⟨n3, rfl, hod, hfd⟩; have HOD := Lib.hid hod; have F5 := Lib.hid ((HFA.out.drew.mono (S' := fun j => j = g2) fun _ _ h => h.elim).trans hfd); have Z5 := Lib.hid (HZ.out.drewN 1 |>.fr hfd hzg); clear hod hfd x0 x1 x2 x3 cr; obtain ⟨x0, x1, x2, x3⟩ := Z5.out.c4)
        | (go_at_call 38; (with_reducible refine (KK.out _ F5.out _ _).mono ?_); rintro e w6 ⟨rfl, hMk, hfk⟩))
      all_goals
        have hF6 : Fr (fun j => j = g2 ∨ j = b) wr w6 := (F5.out.mono fun _ _ h => .inl h).trans (hfk.mono fun _ _ h => .inr h)
        have HFI2 := Lib.hid (show FlI w w6 r Ft L q (some ⟨g, 0, none⟩) n c gx (k + 1) from by
          obtain ⟨F'', hR2, hs2, hf2⟩ := HR'.out.kept (L' := flK q ((prefsT L).take (k + 1)) L) HBR.out HM.out HRM.out HFB.out HKK.out hF6 hMk (by
            rw [HTK.out, flK_at (List.mem_append_right _ List.mem_cons_self), ← HPT.out]
            exact HOD.out.fr hfk fun j hj (hb : j = b) => by cases hj; exact HGB.out hb.symm) (HH.out.row.drop' _) (fun p' hp' => by rw [HTK.out]; exact flK_ne hp' L)
          have hgw := HO.out.lt rfl
          have hxw := HBX.out.lt
          refine ⟨⟨F'', hR2, fun i hi => ?_, fun g' e hg' => ?_, fun hx => ?_⟩, HO.out.fr hF6 fun j hj hb => ?_, HBX.out.fr hF6 fun hb => ?_, HFR.out.step hf2 HSUB.out⟩
          · rcases hs2 i hi with h | h
            · exact HSUB.out i h
            · exact .inr (Nat.le_trans HFR.out.size h)
          · cases e
            rcases hs2 _ hg' with h | h
            · exact HA.out _ rfl h
            · omega
          · rcases hs2 _ hx with h | h
            · exact HGX'.out h
            · omega
          · cases hj
            rcases hb with h | h
            · exact HG2G.out h.symm
            · exact HBG.out h.symm
          · rcases hb with h | h
            · exact HGX2.out h
            · exact HGXB.out h)
        clear hMk hfk hF6
        go_wp2_with fail
        go_roundw
        case rel => exact ⟨k + 1, by omega, by go_num, HFI2.out⟩
        case measure => simp [intOf]; omega
    · obtain rfl : k = n := by omega
      obtain ⟨⟨F', hR', hsub, hA, hgx'⟩, ho, hbx, hfr⟩ := hI
      rw [List.take_of_length_le (by have := HNL.out; omega), flK_all] at hR'
      have k5 := cnt_ r F' _ hR'
      have HR' := Lib.hid hR'
      have HSUB := Lib.hid hsub
      have HFR := Lib.hid hfr
      have hnl := noQ_len L q
      have hl3 := HL.out
      clear hR' hsub hA hgx' ho hbx hfr
      have hkI : ¬ ((k : Int) < (k : Int)) := by omega
      generalize hfl : (flushT L q).length = m at *
      have HFL := Lib.hid hfl
      clear hfl
      have hwr : IntKind.i64.wrap ((L.length : Int) - (m : Int)) = (L.length : Int) - (m : Int) := IntWalk.i64_in _ (by omega)
      generalize hz : L.length = z at *
      have HZL := Lib.hid hz
      clear hz
      go_wp2_with fail
      refine k5.mono ?_
      rintro e w5 ⟨rfl, hf5⟩
      go_wp2_with fail
      go_ret
      exact ⟨by rw [HZL.out, HFL.out]; rfl, F', HR'.out.n0 hf5, HSUB.out, HFR.out.trans (hf5.mono fun _ _ h => h.elim)⟩
end
end Go.Proofs.YtnklbeigikcfkaaDoor
