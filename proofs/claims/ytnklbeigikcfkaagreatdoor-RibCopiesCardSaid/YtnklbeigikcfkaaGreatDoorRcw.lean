/- rib.Copy. RibCopies: what it answers. -/
import Derived.Test.YtnklbeigikcfkaaGreatDoorGc
import Derived.Test.YtnklbeigikcfkaaGreatDoorGd
import Derived.Deep.RegionHeld3
import Derived.Test.YtnklbeigikcfkaaGreatDoorGn
import Derived.Test.YtnklbeigikcfkaaGreatDoorAe
import Derived.Test.YtnklbeigikcfkaaGreatDoorGm
namespace Go.Proofs.YtnklbeigikcfkaaGreatDoor
open Go.Proofs Go.RowKit Go.ChangeShapes Go.WideShapes
open Go.Maps (Keyed)
/-- What stands when some entries were copied. -/
structure CpI (w wr : World) (gn b2 g0 b : Nat) (M rest M2 : List (Px × Sl)) (L : List Td) : Prop where
  bn : Blk wr gn 61 #[.map (some b2)]
  m2 : MapIs Tryz.prog 32 pxV slV wr b2 M2
  it : IterIs Tryz.prog 32 pxV slV wr g0 b M rest
  ent : ∀ p s, (p, s) ∈ M2 → ∃ g, s.1 = some ⟨g, 0, none⟩ ∧ g0 < g ∧ Own wr 34 7 s.1 s.2.1 s.2.2 (flat (pathsT L p)) ∧ (pathsT L p).length = s.2.1 ∧ pathsT L p ≠ []
  apart : ∀ p s q s', (p, s) ∈ M2 → (q, s') ∈ M2 → s.1 = s'.1 → p = q
  had : ∀ p s, (p, s) ∈ M2 → ∀ t, (p, t) ∉ rest
  all : ∀ p t, (p, t) ∈ M → (p, t) ∈ rest ∨ ∃ s, (p, s) ∈ M2
  fr : Fr N0 w wr
theorem CpI.next {w wr w3 : World} {gn b2 g0 b i : Nat} {M rest M2 : List (Px × Sl)} {L : List Td} (h : CpI w wr gn b2 g0 b M rest M2 L) (hap : M.Pairwise fun p q => p.1 ≠ q.1) {p : Px} {A A' : Option Addr} {n c c' : Nat} (hi : rest[i]? = some (p, (A, n, c)))
    (hg0 : w.heap.size ≤ g0) (hgn : gn < g0) (hb2 : b2 < g0) (hbw : b < w.heap.size) (hb2w : w.heap.size ≤ b2)
    (hI : IterIs Tryz.prog 32 pxV slV w3 g0 b M (rest.eraseIdx i)) (f3 : Fr (fun j => j = g0) wr w3)
    {w5 w6 : World} (f5 : Fr N0 w3 w5) (f6 : Fr (fun j => j = b2) w5 w6) (hM : MapIs Tryz.prog 32 pxV slV w6 b2 (M2 ++ [(p, (A', n, c'))])) (ho : Own w5 34 7 A' n c' (flat (pathsT L p))) (hn : ∀ g, A' = some ⟨g, 0, none⟩ → w3.heap.size ≤ g) (hlen : (pathsT L p).length = n) (hne : pathsT L p ≠ []) :
    CpI w w6 gn b2 g0 b M (rest.eraseIdx i) (M2 ++ [(p, (A', n, c'))]) L := by
  have hn0 : 0 < n := by rw [← hlen]; exact List.length_pos_iff.2 hne
  obtain ⟨g', rfl⟩ := ho.some_ hn0
  have hg' := hn g' rfl
  have hg0w : g0 < w3.heap.size := hI.lt
  have hsub := h.it.sub
  have hrap : rest.Pairwise fun p q => p.1 ≠ q.1 := hap.sublist hsub
  have hil := (List.getElem?_eq_some_iff.1 hi).1
  have hmem : (p, (A, n, c)) ∈ rest := List.mem_of_getElem? hi
  have hers : ∀ q t, (q, t) ∈ rest.eraseIdx i ↔ (q, t) ∈ rest ∧ q ≠ p := by
    intro q t
    rw [List.mem_eraseIdx_iff_getElem?]
    constructor
    · rintro ⟨k, hk, hkt⟩
      refine ⟨List.mem_of_getElem? hkt, fun e => ?_⟩
      subst e
      rw [List.pairwise_iff_getElem] at hrap
      obtain ⟨a1, b1⟩ := List.getElem?_eq_some_iff.1 hi
      obtain ⟨a2, b2'⟩ := List.getElem?_eq_some_iff.1 hkt
      rcases Nat.lt_or_ge i k with hl | hl
      · have := hrap i k a1 a2 hl
        rw [b1, b2'] at this
        exact this rfl
      · have := hrap k i a2 a1 (by omega)
        rw [b1, b2'] at this
        exact this rfl
    · rintro ⟨h1, h2⟩
      obtain ⟨k, hk⟩ := List.getElem?_of_mem h1
      refine ⟨k, fun e => ?_, hk⟩
      subst e
      rw [hi] at hk
      cases hk
      exact h2 rfl
  refine ⟨((h.bn.fr f3 (by omega)).fr f5 id).fr f6 (fun e => ?_), hM, (hI.fr f5 id id).fr f6 (by omega) (by omega), ?_, ?_, ?_, ?_, ((h.fr.step f3 fun j hj => .inr (hj ▸ hg0)).trans f5).step f6 fun j hj => .inr (hj ▸ hb2w)⟩
  · exact h.m2.ne_blk h.bn e.symm
  · intro q s hs
    rcases List.mem_append.1 hs with hs | hs
    · obtain ⟨g, e1, e2, e3, e4, e5⟩ := h.ent q s hs
      refine ⟨g, e1, e2, ((e3.fr f3 fun k e => ?_).fr f5 fun _ _ => id).fr f6 fun k e => ?_, e4, e5⟩
      · rw [e1] at e; cases e; omega
      · rw [e1] at e; cases e; omega
    · cases List.mem_singleton.1 hs
      exact ⟨g', rfl, by omega, ho.fr f6 fun k e => by cases e; omega, hlen, hne⟩
  · intro q s q' s' h1 h2 e
    have key : ∀ q s, (q, s) ∈ M2 → s.1 ≠ some ⟨g', 0, none⟩ := by
      intro q s hs e
      obtain ⟨g, e1, _, e3, _⟩ := h.ent q s hs
      have hlt := e3.lt e1
      rw [e1] at e
      cases e
      have := f3.size
      omega
    rcases List.mem_append.1 h1 with h1 | h1 <;> rcases List.mem_append.1 h2 with h2 | h2
    · exact h.apart q s q' s' h1 h2 e
    · cases List.mem_singleton.1 h2
      exact absurd e (key q s h1)
    · cases List.mem_singleton.1 h1
      exact absurd e.symm (key q' s' h2)
    · cases List.mem_singleton.1 h1
      cases List.mem_singleton.1 h2
      rfl
  · intro q s hs t ht
    obtain ⟨h1, h2⟩ := (hers q t).1 ht
    rcases List.mem_append.1 hs with hs | hs
    · exact h.had q s hs t h1
    · cases List.mem_singleton.1 hs
      exact h2 rfl
  · intro q t ht
    by_cases e : q = p
    · subst e
      exact .inr ⟨_, List.mem_append_right _ List.mem_cons_self⟩
    · rcases h.all q t ht with k | ⟨s, k⟩
      · exact .inl ((hers q t).2 ⟨k, e⟩)
      · exact .inr ⟨s, List.mem_append_left _ k⟩
section
variable {w : World}
set_option maxHeartbeats 12800000 in
set_option maxRecDepth 100000 in
theorem cpy_ (r : Nat) (Ft : Nat → Prop) (L : List Td) (h : RibIs w r Ft L) :
    Calls Tryz.prog 14 #[.pointer (some ⟨r, 0, none⟩)] w fun e w' => ∃ (g : Nat) (F' : Nat → Prop), e = .returned (.pointer (some ⟨g, 0, none⟩)) ∧ RibIs w' g F' L ∧ Fr N0 w w' ∧ ∀ i, F' i → w.heap.size ≤ i := by
  have HH := Lib.hid h
  clear h
  go_enter Tryz.func14, Tryz.ntmps14
  go_wp2_with fail
  refine (rnew HH.out.dst).mono ?_
  rintro e w1 ⟨gn, Fn, rfl, hRn, hf1, hFn⟩
  obtain ⟨b2, M0, hBn, hM2, hRM0, hFb2⟩ := hRn.mem
  obtain rfl : M0 = [] := by
    cases M0 with
    | nil => rfl
    | cons e r => exact absurd rfl (hRM0.ent e.1 e.2 List.mem_cons_self).choose_spec.2.2.2.2
  obtain ⟨b, M, hB, hM, hR, hFb⟩ := HH.out.mem
  have hgnw := hFn gn hRn.at_
  have hb2w := hFn b2 hFb2
  have hgn1 := hBn.lt
  have hb21 := hM2.lt
  have hbw := HH.out.lt b hFb
  have cr := (hB.fr hf1 id).c1'
  have hltr := (hB.fr hf1 id).lt
  have HM := Lib.hid (hM.fr hf1 id)
  have HR := Lib.hid hR
  have HBn := Lib.hid hBn
  have HM2 := Lib.hid hM2
  have F1 := Lib.hid hf1
  clear hRn hf1 hFn hBn hM2 hRM0 hFb2 hB hM hR hFb
  go_wp2_with (first | (at_range; refine wpList_range _ rfl (.tmp 10) 59 rfl 32 42 Tryz.underlying59 pxV slV b _ HM.out rfl ?_))
  intro w2 hI f2 s2
  have hf2 : Fr N0 w1 w2 := f2
  obtain ⟨g0, hg0⟩ : ∃ g0, g0 = w1.heap.size := ⟨_, rfl⟩
  have hg0w : w.heap.size ≤ g0 := by have := F1.out.size; omega
  rw [← hg0] at hI ⊢
  have HC := Lib.hid (show CpI w w2 gn b2 g0 b M M [] L from ⟨HBn.out.fr hf2 id, HM2.out.fr hf2 id, hI, nofun, nofun, nofun, fun p t ht => .inl ht, F1.out.trans hf2⟩)
  have hgng : gn < g0 := by omega
  have hb2g : b2 < g0 := by omega
  have HNUM := Lib.hid (And.intro hg0w (And.intro hgng (And.intro hb2g (And.intro hbw (And.intro hb2w hgnw)))))
  have HAP := Lib.hid HM.out.apart
  clear hI f2 s2 hf2 cr hltr hg0 hg0w hgng hb2g hgnw hb2w hgn1 hb21 hbw HBn HM2
  go_wp2_with fail
  go_loopg [5] M.length (fun gk _ wr => ∃ (rest M2 : List (Px × Sl)), rest.length = gk ∧ CpI w wr gn b2 g0 b M rest M2 L)
  case atStart => exact ⟨M, [], rfl, HC.out⟩
  case round =>
    obtain ⟨rest, M2, hgk, hC⟩ := hrel
    have HC3 := Lib.hid hC
    have HGK := Lib.hid hgk
    have hIt := hC.it
    clear hgk hC HC
    go_wp2_with (first | (at_next; refine wpList_next_ _ rfl (.tmp 11) rfl 32 pxV slV g0 b _ _ hIt rfl ?_ ?_))
    · intro h0
      subst h0
      have HFIN := Lib.hid (show RibIs wr gn (fun i => w.heap.size ≤ i ∧ i < wr.heap.size) L from
        { mem := ⟨b2, M2, HC3.out.bn, HC3.out.m2, ⟨fun p s hs => by
              obtain ⟨g, e1, e2, e3, e4, e5⟩ := HC3.out.ent p s hs
              exact ⟨g, e1, ⟨by have := HNUM.out.1; omega, e3.lt e1⟩, e3, e4, e5⟩, fun p hp => by
              obtain ⟨t, ht⟩ := HR.out.all p hp
              rcases HC3.out.all p t ht with k | k
              · cases k
              · exact k, HC3.out.apart⟩, HNUM.out.2.2.2.2.1, HC3.out.m2.lt⟩
          at_ := ⟨HNUM.out.2.2.2.2.2, HC3.out.bn.lt⟩
          row := HH.out.row
          dst := HH.out.dst.n0 HC3.out.fr
          nd := fun k => by have := HH.out.dst.lt; omega
          lt := fun i hi => hi.2 })
      go_wp2_with fail
      go_ret
      exact ⟨gn, _, rfl, HFIN.out, HC3.out.fr, fun i hi => hi.1⟩
    · intro i p A n c w3 hi hI3 f3 s3 hent
      have hmM : (p, (A, n, c)) ∈ M := HC3.out.it.sub.subset (List.mem_of_getElem? hi)
      obtain ⟨gs, e1, e2, e3, e4, e5⟩ := HR.out.ent p _ hmM
      simp only at e1 e3 e4
      subst e1
      have hok := (HH.out.row.px (paths_prefs.1 e5)).1
      have hgl := HH.out.lt gs e2
      have hn4 : n ≤ 4 := by have := HH.out.row.four p; omega
      have F3 := Lib.hid (show Fr N0 w w3 from HC3.out.fr.step f3 fun j hj => .inr (hj ▸ HNUM.out.1))
      have K := Lib.hid fun (W : World) (hW : Fr N0 w W) => cln_ (w := W) (some ⟨gs, 0, none⟩) n c (pathsT L p) (e3.fr hW fun _ _ => id) e4 (by omega)
      unfold NewPs at K
      rw [e4] at K
      obtain ⟨y, hy⟩ := key_px p hok
      have HMU := Lib.hid fun (W : World) (hM : MapIs Tryz.prog 32 pxV slV W b2 M2) (A' : Option Addr) (c' : Nat) => hM.store_new keyedP Tryz.underlying59 ((A', n, c') : Sl) hy fun e he k => HC3.out.had e.1 e.2 he (some ⟨gs, 0, none⟩, n, c) (by rw [pxV_inj k]; exact List.mem_of_getElem? hi)
      have HNX := Lib.hid fun (w5 w6 : World) (A' : Option Addr) (c' : Nat) (f5 : Fr N0 w3 w5) (f6 : Fr (fun j => j = b2) w5 w6) (hM : MapIs Tryz.prog 32 pxV slV w6 b2 (M2 ++ [(p, (A', n, c'))])) (ho : Own w5 34 7 A' n c' (flat (pathsT L p))) (hn : ∀ g, A' = some ⟨g, 0, none⟩ → w3.heap.size ≤ g) =>
        HC3.out.next HAP.out hi HNUM.out.1 HNUM.out.2.1 HNUM.out.2.2.1 HNUM.out.2.2.2.1 HNUM.out.2.2.2.2.1 hI3 f3 f5 f6 hM ho hn e4 e5
      have HLN := Lib.hid (show (rest.eraseIdx i).length + 1 = gk by
        have h1 := (List.getElem?_eq_some_iff.1 hi).1
        have := HGK.out
        rw [List.length_eraseIdx, if_pos h1]
        omega)
      have hb23 : b2 < w3.heap.size := by have := hI3.lt; have := HNUM.out.2.2.1; omega
      have HBG := Lib.hid (show Blk w3 gn 61 #[.map (some b2)] from HC3.out.bn.fr f3 (by have := HNUM.out.2.1; omega))
      have HM3 := Lib.hid (show MapIs Tryz.prog 32 pxV slV w3 b2 M2 from HC3.out.m2.fr f3 (by have := HNUM.out.2.2.1; omega))
      have HGB := Lib.hid (show gn ≠ b2 from fun e => HC3.out.m2.ne_blk HC3.out.bn e.symm)
      generalize pathsT L p = lp at *
      clear hmM hok hgl e2 e3 e4 e5 hIt hi hI3 f3 s3 hy HC3
      obtain ⟨⟨s, h1, l⟩, m⟩ := p
      unfold slV pxV at hent
      unfold pxV slV at HMU
      unfold slV pxV
      simp only at hent HMU ⊢
      have HBZ := Lib.hid (Blk.new w3 32 #[.bool s, .int .u64 (h1 : Int), .int .u64 (l : Int), .int .i64 m])
      have HFA := Lib.hid ((Fr.refl N0 w3).alloc (.cells #[.bool s, .int .u64 (h1 : Int), .int .u64 (l : Int), .int .i64 m] 32))
      go_wp2_with fail
      generalize w3.alloc (.cells #[.bool s, .int .u64 (h1 : Int), .int .u64 (l : Int), .int .i64 m] 32) = w4 at *
      obtain ⟨gz, hgz⟩ : ∃ g, g = w3.heap.size := ⟨_, rfl⟩
      rw [← hgz] at HBZ ⊢
      have hzb : gz ≠ b2 := by omega
      clear hgz hent
      have HSS := Lib.hid (show ∀ w', Fr (fun j => j = b2) w4 w' → (w'.cell? ⟨gn, 0, none⟩ = some (.map (some b2)) ∧ w'.cell? ⟨gz, 0, none⟩ = some (.bool s) ∧ w'.cell? ⟨gz, 1, none⟩ = some (.int .u64 (h1 : Int)) ∧ w'.cell? ⟨gz, 2, none⟩ = some (.int .u64 (l : Int)) ∧ w'.cell? ⟨gz, 3, none⟩ = some (.int .i64 m)) from fun W hW => by
        obtain ⟨k0, k1, k2, k3⟩ := (HBZ.out.fr hW hzb).c4
        exact ⟨((HBG.out.fr HFA.out id).fr hW HGB.out).c1', k0, k1, k2, k3⟩)
      obtain ⟨x0, x1, x2, x3, x4⟩ := HSS.out _ (Fr.refl _ w4)
      have hg4 : gn < w4.heap.size := (HBG.out.fr HFA.out id).lt
      have FC := Lib.hid (Fr.refl (fun j => j = b2) w4)
      go_region_held3 (fun w' => w'.cell? ⟨gn, 0, none⟩ = some (.map (some b2)) ∧ w'.cell? ⟨gz, 0, none⟩ = some (.bool s) ∧ w'.cell? ⟨gz, 1, none⟩ = some (.int .u64 (h1 : Int)) ∧ w'.cell? ⟨gz, 2, none⟩ = some (.int .u64 (l : Int)) ∧ w'.cell? ⟨gz, 3, none⟩ = some (.int .i64 m)) (first | go_keep | exact HSS.out _ (by repeat first | exact FC.out | exact F6.out | refine Fr.drew ?_ | refine Fr.drewN ?_ _)) ((go_at_call 34; (with_reducible refine (K.out _ (F3.out.trans (HFA.out.trans (by repeat first | exact Fr.refl _ _ | refine Fr.drew ?_ | refine Fr.drewN ?_ _)))).mono ?_); rintro e w5 ⟨v, rfl, A5, c5, rfl, ho, hf, hn⟩; have F5 := Lib.hid (Fr.trans (by repeat first | exact Fr.refl _ _ | refine Fr.drew ?_ | refine Fr.drewN ?_ _) hf : Fr N0 w4 _); have FC := Lib.hid (F5.out.mono (S' := fun j => j = b2) fun _ _ h => h.elim); obtain ⟨w6, hrun, hM6, f6, _⟩ := HMU.out w5 ((HM3.out.fr HFA.out id).fr F5.out id) A5 c5; have HM6 := Lib.hid hM6; have FB := Lib.hid (show Fr (fun j => j = b2) w5 w6 from f6); have F6 := Lib.hid (FC.out.trans f6); have HO5 := Lib.hid ho; have HN5 := Lib.hid hn; have hz5 := hf.size; clear hM6 f6 ho hn hf))
      all_goals
        have HCN := Lib.hid (HNX.out _ _ _ _ (HFA.out.trans F5.out) FB.out HM6.out HO5.out fun g e => Nat.le_trans (Nat.le_trans HFA.out.size (Nat.le_refl _)) (HN5.out g e))
        clear hrun x0 x1 x2 x3 x4 hz5
        go_wp2_with fail
        go_roundg (gk - 1)
        case rel => exact ⟨_, _, by have := HLN.out; omega, HCN.out⟩
        case measure => have := HLN.out; omega
end
end Go.Proofs.YtnklbeigikcfkaaGreatDoor
namespace Go.Proofs.YtnklbeigikcfkaaGreatDoor
open Go.Proofs Go.Shelf Go.RowKit
theorem StIn.fr1 {w w' : World} {A : Option Addr} {l : List St} (h : StIn w A l) (hf : Fr N0 w w') : StIn w' A l := by
  intro hl
  obtain ⟨b, off, hA, hb, hc⟩ := h hl
  exact ⟨b, off, hA, Nat.lt_of_lt_of_le hb hf.size, fun i s his => ⟨(hc i s his).1, fun j v hv => (hf.cell (p := ⟨b, off + (i * 12 + j), none⟩) hb id).trans ((hc i s his).2 j v hv)⟩⟩
theorem StIn.c12 {w W : World} {b off : Nat} {l : List St} (h : StIn w (some ⟨b, off, none⟩) l) (hf : Fr N0 w W) {j : Nat} {s : St} (hj : l[j]? = some s) :
    W.cell? ⟨b, off + j * 12, none⟩ = some (.int .i64 s.what) ∧ W.cell? ⟨b, off + j * 12 + 1, none⟩ = some (.bool s.p.ad.six) ∧ W.cell? ⟨b, off + j * 12 + 2, none⟩ = some (.int .u64 (s.p.ad.hi : Int)) ∧ W.cell? ⟨b, off + j * 12 + 3, none⟩ = some (.int .u64 (s.p.ad.lo : Int)) ∧ W.cell? ⟨b, off + j * 12 + 4, none⟩ = some (.int .i64 s.p.bits) ∧ W.cell? ⟨b, off + j * 12 + 5, none⟩ = some (.int .i64 s.x.proto) ∧ W.cell? ⟨b, off + j * 12 + 6, none⟩ = some (.int .i64 s.x.metric) ∧ W.cell? ⟨b, off + j * 12 + 7, none⟩ = some (.bool s.x.via.six) ∧ W.cell? ⟨b, off + j * 12 + 8, none⟩ = some (.int .u64 (s.x.via.hi : Int)) ∧ W.cell? ⟨b, off + j * 12 + 9, none⟩ = some (.int .u64 (s.x.via.lo : Int)) ∧ W.cell? ⟨b, off + j * 12 + 10, none⟩ = some (.int .i64 s.x.port) ∧ W.cell? ⟨b, off + j * 12 + 11, none⟩ = some (.bool s.x.away) := by
  obtain ⟨b', off', hA, _, hc⟩ := h.at hf hj
  cases hA
  have c := fun k v hv => hc k v hv
  simp only [← Nat.add_assoc] at c
  exact ⟨c 0 _ rfl, c 1 _ rfl, c 2 _ rfl, c 3 _ rfl, c 4 _ rfl, c 5 _ rfl, c 6 _ rfl, c 7 _ rfl, c 8 _ rfl, c 9 _ rfl, c 10 _ rfl, c 11 _ rfl⟩
set_option maxHeartbeats 25600000 in
set_option maxRecDepth 100000 in
theorem copies_any {w : World} (hd : Dst w) (A : Option Addr) (n ca : Nat) (la : List St) (hsa : StIn w A la) (hla : la.length = n) (B : Option Addr) (nh cb : Nat) (lb : List St) (hsb : StIn w B lb) (hlb : lb.length = nh) (C : Option Addr) (nt cc : Nat) (lc : List St) (hsc : StIn w C lc) (hlc : lc.length = nt) :
    Calls Tryz.prog 4 #[.slice A n ca, .slice B nh cb, .slice C nt cc] w fun e w' => e = .returned (.bool true) ∧ Fr N0 w w' := by
  have ka := awake15 hd
  have KM := Lib.hid fun (W : World) (hW : Fr N0 w W) => made_ (w := W) (hd.n0 hW) A n ca la (hsa.fr1 hW) hla
  have HDW := Lib.hid hd.lt
  have HSA := Lib.hid hsa
  have HSB := Lib.hid hsb
  have HSC := Lib.hid hsc
  have HLA := Lib.hid hla
  have HLB := Lib.hid hlb
  have HLC := Lib.hid hlc
  clear hsa hla hsb hlb hsc hlc hd
  go_enter Tryz.func4, Tryz.ntmps4
  go_wp2_with fail
  refine ka.mono ?_
  rintro e w1 ⟨rfl, hf⟩
  have HF1 := Lib.hid hf
  have HD1 := Lib.hid (Nat.lt_of_lt_of_le HDW.out hf.size)
  clear hf ka
  go_wp2_with fail
  refine (KM.out _ HF1.out).mono ?_
  rintro e w2 ⟨r, rfl, hr, h2⟩
  obtain ⟨L, hL⟩ : ∃ L, L = madeT (la.take 60) := ⟨_, rfl⟩
  rw [← hL] at h2
  have HLL := Lib.hid hL
  obtain ⟨F, hR2, hF2, _⟩ := h2.rib
  have H2 := Lib.hid ((Hp.start (Fr.refl N0 w1)).addRib HD1.out hR2 h2.fr hF2)
  clear h2 KM hr hR2 hF2 hL
  go_wp2_with fail
  refine (cpy_ r F L (H2.out.rib (k := 0) rfl)).mono ?_
  rintro e w3 ⟨c, Fc, rfl, hRc, hf, hFc⟩
  have H3 := Lib.hid (H2.out.addRib HD1.out hRc hf hFc)
  clear hRc hf hFc H2
  go_wp2_with fail
  refine rf_new.mono ?_
  rintro e w4 ⟨q, rfl, hQ, hf, hq⟩
  have H4 := Lib.hid (H3.out.addRf hQ hf fun i hi => by rw [hi]; exact hq)
  clear hQ hf hq H3
  go_upto_block 0 with fail
  go_cut [11] (fun _ wx => ∃ G : Nat → Prop, Hp w1 wx [rfO w1.heap.size q G L, ribO w1.heap.size c Fc L, ribO w1.heap.size r F L])
  case first =>
   go_wp2_with fail
   go_loopw [11] (fun vi wr => ∃ (j : Nat) (G : Nat → Prop), j ≤ n ∧ j ≤ 60 ∧ vi = .int .i64 (j : Int) ∧ Hp w1 wr [rfO w1.heap.size q G (madeT (la.take j)), ribO w1.heap.size c Fc L, ribO w1.heap.size r F L]) (fun vi _ => 61 - (intOf vi).toNat)
   case atStart => exact ⟨0, fun i => i = q, Nat.zero_le _, Nat.zero_le _, rfl, H4.out⟩
   case round =>
     obtain ⟨j, G, hj, hj6, rfl, hH⟩ := hrel
     have H5 := Lib.hid hH
     clear hH H4
     by_cases hlt : j < n ∧ j < 60
     · obtain ⟨hjn, hj60⟩ := hlt
       have hjI : (j : Int) < (n : Int) := by omega
       have hj60I : (j : Int) < 60 := by omega
       obtain ⟨s, hsj⟩ : ∃ s, la[j]? = some s := ⟨_, List.getElem?_eq_getElem (by have := HLA.out; omega)⟩
       obtain ⟨b, off, rfl, hok, _⟩ := HSA.out.at (HF1.out.trans H5.out.fr) hsj
       obtain ⟨c0, c1, c2, c3, c4, c5, c6, c7, c8, c9, c10, c11⟩ := HSA.out.c12 (HF1.out.trans H5.out.fr) hsj
       have HT := Lib.hid (show madeT (la.take (j + 1)) = (doT (madeT (la.take j)) s).1 by
         obtain ⟨hj, e⟩ := List.getElem?_eq_some_iff.1 hsj
         rw [List.take_succ_eq_append_getElem hj, e, madeT_snoc])
       obtain ⟨L', hL'⟩ : ∃ L', L' = madeT (la.take (j + 1)) := ⟨_, rfl⟩
       rw [← hL'] at HT
       have HLN := Lib.hid hL'
       clear hL'
       generalize madeT (la.take j) = Lj at *
       have KE := Lib.hid fun (W : World) (hR : Rf W q G Lj) => does_ q G Lj hR s hok
       rw [← HT.out] at KE
       generalize (doT Lj s).2.1 = va at *
       generalize (doT Lj s).2.2 = vb at *
       obtain ⟨sq, ⟨⟨s1, h1, l1⟩, m1⟩, ⟨p2, m2, ⟨s2, h2, l2⟩, o2, a2⟩⟩ := s
       unfold stV at KE
       simp only at KE c0 c1 c2 c3 c4 c5 c6 c7 c8 c9 c10 c11
       clear hok hsj
       go_wp2_with fail
       refine (KE.out _ (H5.out.rf (k := 0) rfl)).mono ?_
       rintro e w6 ⟨rfl, ht⟩
       obtain ⟨G6, h6⟩ := H5.out.rfTo (k := 0) rfl ht
       have H6 := Lib.hid (show Hp w1 w6 [rfO w1.heap.size q G6 L', ribO w1.heap.size c Fc L, ribO w1.heap.size r F L] from h6)
       clear ht h6 H5 c0 c1 c2 c3 c4 c5 c6 c7 c8 c9 c10 c11
       go_wp2_with fail
       go_roundw
       case rel => exact ⟨j + 1, G6, by omega, by omega, by go_num, by rw [← HLN.out]; exact H6.out⟩
       case measure => (simp [intOf]; try omega)
     · have HLJ := Lib.hid (show madeT (la.take j) = L by
         rw [HLL.out]
         by_cases h60 : j < 60
         · rw [List.take_of_length_le (by have := HLA.out; omega), List.take_of_length_le (by have := HLA.out; omega)]
         · rw [show j = 60 by omega])
       have H6 := Lib.hid (show Hp w1 wr [rfO w1.heap.size q G L, ribO w1.heap.size c Fc L, ribO w1.heap.size r F L] from HLJ.out ▸ H5.out)
       clear H5 HLJ HLL
       by_cases hjn : j < n
       · have hjI : (j : Int) < (n : Int) := by omega
         have hj60I : ¬ (j : Int) < 60 := by omega
         go_wp2_with fail
         go_meet
         exact ⟨G, H6.out⟩
       · have hjI : ¬ (j : Int) < (n : Int) := by omega
         go_wp2_with fail
         go_meet
         exact ⟨G, H6.out⟩
  case rest =>
    obtain ⟨G, hcx⟩ := hcut
    have H6 := Lib.hid hcx
    clear hcx H4 HLL
    go_wp2_with fail
    refine (rf_copy q G L (H6.out.rf (k := 0) rfl)).mono ?_
    rintro e w7 ⟨d, D, rfl, hRd, hf, hD⟩
    have H7 := Lib.hid (H6.out.addRf hRd hf hD)
    clear hRd hf hD H6
    go_wp2_with fail
    go_loopw [13] (fun vi wr => ∃ (j : Nat) (D G Fc Fq : Nat → Prop) (L2 L1 : List Td), j ≤ 20 ∧ vi = .int .i64 (j : Int) ∧ Hp w1 wr [rfO w1.heap.size d D L2, rfO w1.heap.size q G L1, ribO w1.heap.size c Fc L2, ribO w1.heap.size r Fq L1]) (fun vi _ => 21 - (intOf vi).toNat)
    case atStart => exact ⟨0, D, G, Fc, F, L, L, by omega, rfl, H7.out⟩
    case round =>
      obtain ⟨j, D, G, Fc, Fq, L2, L1, hj, rfl, hH⟩ := hrel
      have H20 := Lib.hid hH
      clear hH H7
      by_cases hj20 : j < 20
      · have hj20I : (j : Int) < 20 := by omega
        go_upto_if 53 with fail
        go_cut [13] (fun v wx => v = .int .i64 (j : Int) ∧ ∃ (Fx Gx : Nat → Prop) (Lx : List Td), Hp w1 wx [rfO w1.heap.size d D L2, rfO w1.heap.size q Gx Lx, ribO w1.heap.size c Fc L2, ribO w1.heap.size r Fx Lx])
        case first =>
          by_cases hjn : j < nh
          · have hjI : (j : Int) < (nh : Int) := by omega
            have hjL : j < lb.length := by have := HLB.out; omega
            obtain ⟨s, hsj⟩ : ∃ s, lb[j]? = some s := ⟨_, List.getElem?_eq_getElem hjL⟩
            obtain ⟨b, off, rfl, hok, _⟩ := HSB.out.at (HF1.out.trans H20.out.fr) hsj
            have HC := Lib.hid fun (W : World) (hW : Fr N0 w W) => HSB.out.c12 hW hsj
            obtain ⟨L6, hL6⟩ : ∃ L6, L6 = (doT L1 s).1 := ⟨_, rfl⟩
            have KD := Lib.hid fun (W : World) (hR : RibIs W r Fq L1) => do_ r Fq L1 hR s hok
            have KE := Lib.hid fun (W : World) (hR : Rf W q G L1) => does_ q G L1 hR s hok
            rw [← hL6] at KD KE
            generalize (doT L1 s).2.1 = va at *
            generalize (doT L1 s).2.2 = vb at *
            have KT := Lib.hid fun (W : World) (r q : Nat) (F G : Nat → Prop) (L : List Td) (hR : RibIs W r F L) (hQ : Rf W q G L) => tells_ r q F G L s.p hok.p hR hQ
            clear hL6 hok hsj hjL
            obtain ⟨sq, ⟨⟨s1, h1, l1⟩, m1⟩, ⟨p2, m2, ⟨s2, h2, l2⟩, o2, a2⟩⟩ := s
            unfold stV at KD KE
            unfold pxV at KT
            simp only at KD KE KT HC
            obtain ⟨c0, c1, c2, c3, c4, c5, c6, c7, c8, c9, c10, c11⟩ := HC.out _ (HF1.out.trans H20.out.fr)
            go_wp2_with fail
            refine (KD.out _ (H20.out.rib (k := 3) rfl)).mono ?_
            rintro e w6 ⟨rfl, ht⟩
            obtain ⟨F6, h6⟩ := H20.out.ribTo (k := 3) rfl ht
            have H6 := Lib.hid (show Hp w1 w6 [rfO w1.heap.size d D L2, rfO w1.heap.size q G L1, ribO w1.heap.size c Fc L2, ribO w1.heap.size r F6 L6] from h6)
            clear ht h6 c0 c1 c2 c3 c4 c5 c6 c7 c8 c9 c10 c11
            obtain ⟨c0, c1, c2, c3, c4, c5, c6, c7, c8, c9, c10, c11⟩ := HC.out _ (HF1.out.trans H6.out.fr)
            go_wp2_with fail
            refine (KE.out _ (H6.out.rf (k := 1) rfl)).mono ?_
            rintro e w7 ⟨rfl, ht⟩
            obtain ⟨G7, h7⟩ := H6.out.rfTo (k := 1) rfl ht
            have H7 := Lib.hid (show Hp w1 w7 [rfO w1.heap.size d D L2, rfO w1.heap.size q G7 L6, ribO w1.heap.size c Fc L2, ribO w1.heap.size r F6 L6] from h7)
            clear ht h7 H6 c0 c1 c2 c3 c4 c5 c6 c7 c8 c9 c10 c11
            obtain ⟨c0, c1, c2, c3, c4, c5, c6, c7, c8, c9, c10, c11⟩ := HC.out _ (HF1.out.trans H7.out.fr)
            go_wp2_with fail
            refine (KT.out _ r q _ _ _ (H7.out.rib (k := 3) rfl) (H7.out.rf (k := 1) rfl)).mono ?_
            rintro e w8 ⟨rfl, hf⟩
            have H8 := Lib.hid (H7.out.n0 hf)
            clear hf H7 c0 c1 c2 c3 c4 c5 c6 c7 c8 c9 c10 c11
            obtain ⟨c0, c1, c2, c3, c4, c5, c6, c7, c8, c9, c10, c11⟩ := HC.out _ (HF1.out.trans H8.out.fr)
            go_wp2_with fail
            refine (KT.out _ c d _ _ _ (H8.out.rib (k := 2) rfl) (H8.out.rf (k := 0) rfl)).mono ?_
            rintro e w9 ⟨rfl, hf⟩
            have H9 := Lib.hid (H8.out.n0 hf)
            clear hf H8 c0 c1 c2 c3 c4 c5 c6 c7 c8 c9 c10 c11
            go_wp2_with fail
            go_meet
            exact ⟨rfl, F6, G7, L6, H9.out⟩
          · have hjI : ¬ (j : Int) < (nh : Int) := by omega
            go_wp2_with fail
            go_meet
            exact ⟨rfl, Fq, G, L1, H20.out⟩
        case rest =>
         obtain ⟨rfl, Fq, G, L1, hcx⟩ := hcut
         have H20 := Lib.hid hcx
         clear hcx
         by_cases hjn : j < nt
         · have hjI : (j : Int) < (nt : Int) := by omega
           have hjL : j < lc.length := by have := HLC.out; omega
           obtain ⟨s, hsj⟩ : ∃ s, lc[j]? = some s := ⟨_, List.getElem?_eq_getElem hjL⟩
           obtain ⟨b, off, rfl, hok, _⟩ := HSC.out.at (HF1.out.trans H20.out.fr) hsj
           have HC := Lib.hid fun (W : World) (hW : Fr N0 w W) => HSC.out.c12 hW hsj
           obtain ⟨L6, hL6⟩ : ∃ L6, L6 = (doT L2 s).1 := ⟨_, rfl⟩
           have KD := Lib.hid fun (W : World) (hR : RibIs W c Fc L2) => do_ c Fc L2 hR s hok
           have KE := Lib.hid fun (W : World) (hR : Rf W d D L2) => does_ d D L2 hR s hok
           rw [← hL6] at KD KE
           generalize (doT L2 s).2.1 = va at *
           generalize (doT L2 s).2.2 = vb at *
           have KT := Lib.hid fun (W : World) (r q : Nat) (F G : Nat → Prop) (L : List Td) (hR : RibIs W r F L) (hQ : Rf W q G L) => tells_ r q F G L s.p hok.p hR hQ
           clear hL6 hok hsj hjL
           obtain ⟨sq, ⟨⟨s1, h1, l1⟩, m1⟩, ⟨p2, m2, ⟨s2, h2, l2⟩, o2, a2⟩⟩ := s
           unfold stV at KD KE
           unfold pxV at KT
           simp only at KD KE KT HC
           obtain ⟨c0, c1, c2, c3, c4, c5, c6, c7, c8, c9, c10, c11⟩ := HC.out _ (HF1.out.trans H20.out.fr)
           go_wp2_with fail
           refine (KD.out _ (H20.out.rib (k := 2) rfl)).mono ?_
           rintro e w6 ⟨rfl, ht⟩
           obtain ⟨F6, h6⟩ := H20.out.ribTo (k := 2) rfl ht
           have H6 := Lib.hid (show Hp w1 w6 [rfO w1.heap.size d D L2, rfO w1.heap.size q G L1, ribO w1.heap.size c F6 L6, ribO w1.heap.size r Fq L1] from h6)
           clear ht h6 c0 c1 c2 c3 c4 c5 c6 c7 c8 c9 c10 c11
           obtain ⟨c0, c1, c2, c3, c4, c5, c6, c7, c8, c9, c10, c11⟩ := HC.out _ (HF1.out.trans H6.out.fr)
           go_wp2_with fail
           refine (KE.out _ (H6.out.rf (k := 0) rfl)).mono ?_
           rintro e w7 ⟨rfl, ht⟩
           obtain ⟨G7, h7⟩ := H6.out.rfTo (k := 0) rfl ht
           have H7 := Lib.hid (show Hp w1 w7 [rfO w1.heap.size d G7 L6, rfO w1.heap.size q G L1, ribO w1.heap.size c F6 L6, ribO w1.heap.size r Fq L1] from h7)
           clear ht h7 H6 c0 c1 c2 c3 c4 c5 c6 c7 c8 c9 c10 c11
           obtain ⟨c0, c1, c2, c3, c4, c5, c6, c7, c8, c9, c10, c11⟩ := HC.out _ (HF1.out.trans H7.out.fr)
           go_wp2_with fail
           refine (KT.out _ r q _ _ _ (H7.out.rib (k := 3) rfl) (H7.out.rf (k := 1) rfl)).mono ?_
           rintro e w8 ⟨rfl, hf⟩
           have H8 := Lib.hid (H7.out.n0 hf)
           clear hf H7 c0 c1 c2 c3 c4 c5 c6 c7 c8 c9 c10 c11
           obtain ⟨c0, c1, c2, c3, c4, c5, c6, c7, c8, c9, c10, c11⟩ := HC.out _ (HF1.out.trans H8.out.fr)
           go_wp2_with fail
           refine (KT.out _ c d _ _ _ (H8.out.rib (k := 2) rfl) (H8.out.rf (k := 0) rfl)).mono ?_
           rintro e w9 ⟨rfl, hf⟩
           have H9 := Lib.hid (H8.out.n0 hf)
           clear hf H8 c0 c1 c2 c3 c4 c5 c6 c7 c8 c9 c10 c11
           go_wp2_with fail
           go_roundw
           case rel => exact ⟨j + 1, G7, G, F6, Fq, L6, L1, by omega, by go_num, H9.out⟩
           case measure => (simp [intOf]; try omega)
         · have hjI : ¬ (j : Int) < (nt : Int) := by omega
           go_wp2_with fail
           go_roundw
           case rel => exact ⟨j + 1, D, G, Fc, Fq, L2, L1, by omega, by go_num, H20.out⟩
           case measure => (simp [intOf]; try omega)
      · have hj20I : ¬ (j : Int) < 20 := by omega
        go_wp2_with fail
        refine (tells_ c d Fc D L2 ⟨⟨false, 0, 0⟩, 0⟩ ⟨⟨by decide, by decide⟩, by decide, by decide⟩ (H20.out.rib (k := 2) rfl) (H20.out.rf (k := 0) rfl)).mono ?_
        rintro e w9 ⟨rfl, hf⟩
        have HF := Lib.hid (H20.out.fr.trans hf)
        clear hf
        go_wp2_with fail
        go_ret
        exact ⟨rfl, HF1.out.trans HF.out⟩
theorem copies_walk (W : World) (_hS : W.ShapedOpen Tryz.prog) (ht : Dst W) (A : Option Addr) (n c : Nat) (rd : Rd Tryz.prog W 22 [.slice A n c]) (_s : n * Tryz.prog.bytesOf 36 ≤ 140737488351232) (A2 : Option Addr) (n2 c2 : Nat) (rd2 : Rd Tryz.prog W 22 [.slice A2 n2 c2]) (_s2 : n2 * Tryz.prog.bytesOf 36 ≤ 140737488351232) (A3 : Option Addr) (n3 c3 : Nat) (rd3 : Rd Tryz.prog W 22 [.slice A3 n3 c3]) (_s3 : n3 * Tryz.prog.bytesOf 36 ≤ 140737488351232) :
    Calls Tryz.prog 4 #[.slice A n c, .slice A2 n2 c2, .slice A3 n3 c3] W fun e w' => e = .returned (.bool true) ∧ Below W.heap.size W w' := by
  obtain ⟨l, hl, hs, _⟩ := steps_in rd
  obtain ⟨l2, hl2, hs2, _⟩ := steps_in rd2
  obtain ⟨l3, hl3, hs3, _⟩ := steps_in rd3
  exact (copies_any ht A n c l hs hl A2 n2 c2 l2 hs2 hl2 A3 n3 c3 l3 hs3 hl3).mono fun e w' ⟨he, hf⟩ => ⟨he, hf.below (Nat.le_refl _) fun _ _ h => h.elim⟩
end Go.Proofs.YtnklbeigikcfkaaGreatDoor
