/- RibPlays: what it answers. -/
import Derived.Test.YtnklbeigikcfkaaGreatDoorGn
import Derived.Test.YtnklbeigikcfkaaGreatDoorAe
import Derived.Test.YtnklbeigikcfkaaGreatDoorGm
namespace Go.Proofs.YtnklbeigikcfkaaGreatDoor
open Go.Proofs Go.Shelf Go.RowKit
def stA (s : St) : Array Value := #[.int .i64 s.what, .bool s.p.ad.six, .int .u64 (s.p.ad.hi : Int), .int .u64 (s.p.ad.lo : Int), .int .i64 s.p.bits, .int .i64 s.x.proto, .int .i64 s.x.metric, .bool s.x.via.six, .int .u64 (s.x.via.hi : Int), .int .u64 (s.x.via.lo : Int), .int .i64 s.x.port, .bool s.x.away]
theorem Blk.c12 {w : World} {g : Nat} {t : TypeId} {s : St} (k : Blk w g t (stA s)) :
    w.cell? ⟨g, 0, none⟩ = some (.int .i64 s.what) ∧ w.cell? ⟨g, 1, none⟩ = some (.bool s.p.ad.six) ∧ w.cell? ⟨g, 2, none⟩ = some (.int .u64 (s.p.ad.hi : Int)) ∧ w.cell? ⟨g, 3, none⟩ = some (.int .u64 (s.p.ad.lo : Int)) ∧ w.cell? ⟨g, 4, none⟩ = some (.int .i64 s.p.bits) ∧ w.cell? ⟨g, 5, none⟩ = some (.int .i64 s.x.proto) ∧
    w.cell? ⟨g, 6, none⟩ = some (.int .i64 s.x.metric) ∧ w.cell? ⟨g, 7, none⟩ = some (.bool s.x.via.six) ∧ w.cell? ⟨g, 8, none⟩ = some (.int .u64 (s.x.via.hi : Int)) ∧ w.cell? ⟨g, 9, none⟩ = some (.int .u64 (s.x.via.lo : Int)) ∧ w.cell? ⟨g, 10, none⟩ = some (.int .i64 s.x.port) ∧ w.cell? ⟨g, 11, none⟩ = some (.bool s.x.away) :=
  ⟨k.cell 0, k.cell 1, k.cell 2, k.cell 3, k.cell 4, k.cell 5, k.cell 6, k.cell 7, k.cell 8, k.cell 9, k.cell 10, k.cell 11⟩
theorem StIn.fr0 {w w' : World} {A : Option Addr} {l : List St} (h : StIn w A l) (hf : Fr N0 w w') : StIn w' A l := by
  intro hl
  obtain ⟨b, off, hA, hb, hc⟩ := h hl
  exact ⟨b, off, hA, Nat.lt_of_lt_of_le hb hf.size, fun i s his => ⟨(hc i s his).1, fun j v hv => (hf.cell (p := ⟨b, off + (i * 12 + j), none⟩) hb id).trans ((hc i s his).2 j v hv)⟩⟩
set_option maxHeartbeats 25600000 in
set_option maxRecDepth 100000 in
theorem plays_any {w : World} (hd : Dst w) (A : Option Addr) (n c : Nat) (l : List St) (hs : StIn w A l) (hl : l.length = n) :
    Calls Tryz.prog 3 #[.slice A n c] w fun e w' => e = .returned (.bool true) ∧ Fr N0 w w' := by
  have ka := awake15 hd
  have KN := Lib.hid fun (W : World) (hW : Fr N0 w W) => rnew (w := W) (hd.n0 hW)
  have HDW := Lib.hid hd.lt
  have HS := Lib.hid hs
  have HL := Lib.hid hl
  clear hs hl hd
  go_enter Tryz.func3, Tryz.ntmps3
  go_wp2_with fail
  refine ka.mono ?_
  rintro e w1 ⟨rfl, hf⟩
  have HF1 := Lib.hid hf
  have HD1 := Lib.hid (Nat.lt_of_lt_of_le HDW.out hf.size)
  clear hf ka
  go_wp2_with fail
  refine (KN.out _ HF1.out).mono ?_
  rintro e w2 ⟨r, F, rfl, hR, hf, hF⟩
  have H2 := Lib.hid ((Hp.start (Fr.refl N0 w1)).addRib HD1.out hR hf hF)
  clear hR hf hF KN
  go_wp2_with fail
  refine rf_new.mono ?_
  rintro e w3 ⟨q, rfl, hQ, hf, hq⟩
  have H3 := Lib.hid (H2.out.addRf hQ hf fun i hi => by rw [hi]; exact hq)
  clear hQ hf hq H2
  go_wp2_with fail
  go_loopw [6] (fun vi wr => ∃ (j : Nat) (F G : Nat → Prop), j ≤ n ∧ j ≤ 60 ∧ vi = .int .i64 (j : Int) ∧ Hp w1 wr [rfO w1.heap.size q G (madeT (l.take j)), ribO w1.heap.size r F (madeT (l.take j))]) (fun vi _ => 61 - (intOf vi).toNat)
  case atStart => exact ⟨0, F, fun i => i = q, Nat.zero_le _, Nat.zero_le _, rfl, H3.out⟩
  case round =>
    obtain ⟨j, F4, G4, hj, hj6, rfl, hH⟩ := hrel
    have H4 := Lib.hid hH
    clear hH H3
    rename World => wo
    by_cases hjn : j < n
    · have hjI : (j : Int) < (n : Int) := by omega
      by_cases hj60 : j < 60
      · have hj60I : (j : Int) < 60 := by omega
        obtain ⟨s, hsj⟩ : ∃ s, l[j]? = some s := ⟨_, List.getElem?_eq_getElem (by have := HL.out; omega)⟩
        obtain ⟨b, off, rfl, hok, hc⟩ := HS.out.at (HF1.out.trans H4.out.fr) hsj
        have HT := Lib.hid (show madeT (l.take (j + 1)) = (doT (madeT (l.take j)) s).1 by
          obtain ⟨hj, e⟩ := List.getElem?_eq_some_iff.1 hsj
          rw [List.take_succ_eq_append_getElem hj, e, madeT_snoc])
        obtain ⟨L', hL'⟩ : ∃ L', L' = madeT (l.take (j + 1)) := ⟨_, rfl⟩
        rw [← hL'] at HT
        have HLN := Lib.hid hL'
        clear hL'
        generalize madeT (l.take j) = L at *
        have KD := Lib.hid fun (W : World) (hR : RibIs W r F4 L) => do_ r F4 L hR s hok
        have KE := Lib.hid fun (W : World) (G : Nat → Prop) (hR : Rf W q G L) => does_ q G L hR s hok
        rw [← HT.out] at KD KE
        generalize (doT L s).2.1 = va at *
        generalize (doT L s).2.2 = vb at *
        have KT := Lib.hid fun (W : World) (F G : Nat → Prop) (hR : RibIs W r F L') (hQ : Rf W q G L') => tells_ r q F G L' s.p hok.p hR hQ
        have KP := Lib.hid fun (W : World) (F : Nat → Prop) (hR : RibIs W r F L') => pth_ r F L' s.p hR hok.p
        have KX := Lib.hid fun (W : World) (F : Nat → Prop) (hR : RibIs W r F L') => prf_ r F L' hR
        have HBN := Lib.hid (Blk.new wo 36 (stA s))
        have HFA := Lib.hid ((Fr.refl N0 wo).alloc (.cells (stA s) 36))
        have HC12 := Lib.hid fun (W : World) (g : Nat) (hB : Blk W g 36 (stA s)) => hB.c12
        obtain ⟨sq, ⟨⟨s1, h1, l1⟩, m1⟩, ⟨p2, m2, ⟨s2, h2, l2⟩, o2, a2⟩⟩ := s
        have c0 := hc 0 _ rfl
        have c1 := hc 1 _ rfl
        have c2 := hc 2 _ rfl
        have c3 := hc 3 _ rfl
        have c4 := hc 4 _ rfl
        have c5 := hc 5 _ rfl
        have c6 := hc 6 _ rfl
        have c7 := hc 7 _ rfl
        have c8 := hc 8 _ rfl
        have c9 := hc 9 _ rfl
        have c10 := hc 10 _ rfl
        have c11 := hc 11 _ rfl
        unfold stV at KD KE
        unfold pxV at KT KP
        unfold stA at HBN HFA
        simp only [← Nat.add_assoc, Nat.add_zero] at c0 c1 c2 c3 c4 c5 c6 c7 c8 c9 c10 c11 KD KE KT KP HBN HFA HC12
        clear hc hsj hok
        go_wp2_with fail
        generalize wo.alloc (.cells #[.int .i64 sq, .bool s1, .int .u64 (h1 : Int), .int .u64 (l1 : Int), .int .i64 m1, .int .i64 p2, .int .i64 m2, .bool s2, .int .u64 (h2 : Int), .int .u64 (l2 : Int), .int .i64 o2, .bool a2] 36) = w5 at *
        obtain ⟨gs, hgs⟩ : ∃ g, g = wo.heap.size := ⟨_, rfl⟩
        rw [← hgs] at HBN ⊢
        have H5 := Lib.hid (H4.out.addBlk HBN.out HFA.out (Nat.le_of_eq hgs.symm))
        clear hgs HBN HFA c0 c1 c2 c3 c4 c5 c6 c7 c8 c9 c10 c11 H4
        refine (KD.out _ (H5.out.rib (k := 2) rfl)).mono ?_
        rintro e w6 ⟨rfl, ht⟩
        obtain ⟨F6, h6⟩ := H5.out.ribTo (k := 2) rfl ht
        have H6 := Lib.hid (show Hp w1 w6 [blkO w1.heap.size gs 36 #[.int .i64 sq, .bool s1, .int .u64 (h1 : Int), .int .u64 (l1 : Int), .int .i64 m1, .int .i64 p2, .int .i64 m2, .bool s2, .int .u64 (h2 : Int), .int .u64 (l2 : Int), .int .i64 o2, .bool a2], rfO w1.heap.size q G4 L, ribO w1.heap.size r F6 L'] from h6)
        clear ht h6 H5
        obtain ⟨x0, x1, x2, x3, x4, x5, x6, x7, x8, x9, x10, x11⟩ := HC12.out _ gs (H6.out.at (k := 0) rfl)
        go_wp2_with fail
        refine (KE.out _ G4 (H6.out.rf (k := 1) rfl)).mono ?_
        rintro e w7 ⟨rfl, ht⟩
        obtain ⟨G7, h7⟩ := H6.out.rfTo (k := 1) rfl ht
        have H7 := Lib.hid (show Hp w1 w7 [blkO w1.heap.size gs 36 #[.int .i64 sq, .bool s1, .int .u64 (h1 : Int), .int .u64 (l1 : Int), .int .i64 m1, .int .i64 p2, .int .i64 m2, .bool s2, .int .u64 (h2 : Int), .int .u64 (l2 : Int), .int .i64 o2, .bool a2], rfO w1.heap.size q G7 L', ribO w1.heap.size r F6 L'] from h7)
        clear ht h7 H6 x0 x1 x2 x3 x4 x5 x6 x7 x8 x9 x10 x11
        obtain ⟨x0, x1, x2, x3, x4, x5, x6, x7, x8, x9, x10, x11⟩ := HC12.out _ gs (H7.out.at (k := 0) rfl)
        go_wp2_with fail
        refine (KT.out _ F6 G7 (H7.out.rib (k := 2) rfl) (H7.out.rf (k := 1) rfl)).mono ?_
        rintro e w8 ⟨rfl, hf⟩
        have H8 := Lib.hid (H7.out.n0 hf)
        clear hf H7 x0 x1 x2 x3 x4 x5 x6 x7 x8 x9 x10 x11
        obtain ⟨x0, x1, x2, x3, x4, x5, x6, x7, x8, x9, x10, x11⟩ := HC12.out _ gs (H8.out.at (k := 0) rfl)
        go_wp2_with fail
        refine (KP.out _ F6 (H8.out.rib (k := 2) rfl)).mono ?_
        rintro e w9 ⟨v, rfl, A12, c12, rfl, ho, hf, hn⟩
        generalize (pathsT L' ⟨⟨s1, h1, l1⟩, m1⟩).length = np at *
        have H9 := Lib.hid (H8.out.addOwn ho hf hn)
        have hnp := ho.len_le
        clear ho hf hn H8 x0 x1 x2 x3 x4 x5 x6 x7 x8 x9 x10 x11
        generalize flat (pathsT L' ⟨⟨s1, h1, l1⟩, m1⟩) = xs0 at *
        go_wp2_with fail
        go_loopw [13] (fun vk wr => ∃ (k : Nat) (xs : List Value), k ≤ np ∧ vk = .int .i64 (k : Int) ∧ Hp w1 wr [ownO w1.heap.size 34 7 A12 np c12 xs, blkO w1.heap.size gs 36 #[.int .i64 sq, .bool s1, .int .u64 (h1 : Int), .int .u64 (l1 : Int), .int .i64 m1, .int .i64 p2, .int .i64 m2, .bool s2, .int .u64 (h2 : Int), .int .u64 (l2 : Int), .int .i64 o2, .bool a2], rfO w1.heap.size q G7 L', ribO w1.heap.size r F6 L']) (fun vk _ => np - (intOf vk).toNat)
        case atStart => exact ⟨0, xs0, Nat.zero_le _, rfl, H9.out⟩
        case round =>
          obtain ⟨k, xs, hk, rfl, hH⟩ := hrel
          have H10 := Lib.hid hH
          clear hH H9
          by_cases hkn : k < np
          · have hkI : (k : Int) < (np : Int) := by omega
            have ho := (H10.out.at (k := 0) rfl : Own wr 34 7 A12 np c12 xs)
            obtain ⟨g12, rfl⟩ := ho.some_ (by omega)
            obtain ⟨v0, e0⟩ := ho.ex (j := k * 7) (by omega)
            obtain ⟨v1, e1⟩ := ho.ex (j := k * 7 + 1) (by omega)
            obtain ⟨v2, e2⟩ := ho.ex (j := k * 7 + 2) (by omega)
            obtain ⟨v3, e3⟩ := ho.ex (j := k * 7 + 3) (by omega)
            obtain ⟨v4, e4⟩ := ho.ex (j := k * 7 + 4) (by omega)
            obtain ⟨v5, e5⟩ := ho.ex (j := k * 7 + 5) (by omega)
            obtain ⟨v6, e6⟩ := ho.ex (j := k * 7 + 6) (by omega)
            have hfz := ho.cell_none
            have hh := H10.out.sets (k := 0) rfl (k * 7) (Pa.cs ⟨0, 77, ⟨false, 0, 0⟩, 0, false⟩)
            rw [sets7] at hh
            have HX := Lib.hid hh
            clear ho hh
            go_wp2_with fail
            obtain ⟨ys, hy⟩ := HX.out
            clear e0 e1 e2 e3 e4 e5 e6 hfz
            go_roundw
            case rel => exact ⟨k + 1, ys, by omega, by go_num, hy⟩
            case measure => (simp [intOf]; try omega)
          · have hkI : ¬ (k : Int) < (np : Int) := by omega
            have H11 := Lib.hid H10.out.tail
            clear H10
            go_wp2_with fail
            refine (KX.out _ F6 (H11.out.rib (k := 2) rfl)).mono ?_
            rintro e w11 ⟨v, rfl, A13, c13, rfl, ho, hf, hn⟩
            generalize (prefsT L').length = nx at *
            have H12 := Lib.hid (H11.out.addOwn ho hf hn)
            have hnx := ho.len_le
            clear ho hf hn H11
            generalize flat (prefsT L') = ys0 at *
            go_wp2_with fail
            go_loopw [15] (fun vk wr => ∃ (k : Nat) (xs : List Value), k ≤ nx ∧ vk = .int .i64 (k : Int) ∧ Hp w1 wr [ownO w1.heap.size 32 4 A13 nx c13 xs, blkO w1.heap.size gs 36 #[.int .i64 sq, .bool s1, .int .u64 (h1 : Int), .int .u64 (l1 : Int), .int .i64 m1, .int .i64 p2, .int .i64 m2, .bool s2, .int .u64 (h2 : Int), .int .u64 (l2 : Int), .int .i64 o2, .bool a2], rfO w1.heap.size q G7 L', ribO w1.heap.size r F6 L']) (fun vk _ => nx - (intOf vk).toNat)
            case atStart => exact ⟨0, ys0, Nat.zero_le _, rfl, H12.out⟩
            case round =>
              obtain ⟨i, ys, hi, rfl, hH⟩ := hrel
              have H13 := Lib.hid hH
              clear hH H12
              by_cases hin : i < nx
              · have hiI : (i : Int) < (nx : Int) := by omega
                have ho := (H13.out.at (k := 0) rfl : Own wr 32 4 A13 nx c13 ys)
                obtain ⟨g13, rfl⟩ := ho.some_ (by omega)
                obtain ⟨v3, e3⟩ := ho.ex (j := i * 4 + 3) (by omega)
                have hfz := ho.cell_none (i * 4 + 3)
                have hh := H13.out.sets (k := 0) rfl (i * 4 + 3) [.int .i64 77]
                have HX := Lib.hid hh
                clear ho hh
                go_wp2_with fail
                obtain ⟨zs, hy⟩ := HX.out
                clear e3 hfz
                go_roundw
                case rel => exact ⟨i + 1, zs, by omega, by go_num, hy⟩
                case measure => (simp [intOf]; try omega)
              · have hiI : ¬ (i : Int) < (nx : Int) := by omega
                have H14 := Lib.hid H13.out.tail.tail
                clear H13
                go_wp2_with fail
                go_roundw
                case rel => exact ⟨j + 1, F6, G7, by omega, by omega, by go_num, by rw [← HLN.out]; exact H14.out⟩
                case measure => (simp [intOf]; try omega)
      · have hj60I : ¬ (j : Int) < 60 := by omega
        go_wp2_with fail
        go_ret
        exact ⟨rfl, HF1.out.trans H4.out.fr⟩
    · have hjI : ¬ (j : Int) < (n : Int) := by omega
      go_wp2_with fail
      go_ret
      exact ⟨rfl, HF1.out.trans H4.out.fr⟩
theorem plays_walk (W : World) (_hS : W.ShapedOpen Tryz.prog) (ht : Dst W) (A : Option Addr) (n c : Nat) (rd : Rd Tryz.prog W 22 [.slice A n c]) (_s : n * Tryz.prog.bytesOf 36 ≤ 140737488351232) :
    Calls Tryz.prog 3 #[.slice A n c] W fun e w' => e = .returned (.bool true) ∧ Below W.heap.size W w' := by
  obtain ⟨l, hl, hs, _⟩ := steps_in rd
  exact (plays_any ht A n c l hs hl).mono fun e w' ⟨he, hf⟩ => ⟨he, hf.below (Nat.le_refl _) fun _ _ h => h.elim⟩
end Go.Proofs.YtnklbeigikcfkaaGreatDoor
