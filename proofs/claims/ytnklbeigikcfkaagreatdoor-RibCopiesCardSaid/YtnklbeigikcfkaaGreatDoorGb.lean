/- A rib behind a step at one prefix; what the map holds at a prefix. Put, where a path of the same way is there: it is put in that one's place. Put, where no path of the same way is there: refused, where there is no room. Put, where no path of the same way is there and there is room. Put, all of it. -/
import Derived.Test.YtnklbeigikcfkaaGreatDoorRis
import Derived.Test.YtnklbeigikcfkaaGreatDoorWy
import Derived.Test.YtnklbeigikcfkaaGreatDoorSf
namespace Go.Proofs.YtnklbeigikcfkaaGreatDoor
open Go.Proofs Go.RowKit Go.ChangeShapes Go.WideShapes
open Go.Maps (Keyed)
theorem Dst.lt {w : World} (h : Dst w) : 0 < w.heap.size := World.block_lt_of_cell? _ _ (h 0 (by decide))
theorem More.sub {F : Nat → Prop} {w w' : World} {i : Nat} (h : More F w w' i) : F i ∨ w.heap.size ≤ i := h.imp_right And.left
theorem RibIs.step {w w' : World} {r b g' : Nat} {F S : Nat → Prop} {L L' : List Td} {M M' : List (Px × Sl)} {p : Px} {s' : Sl} (h : RibIs w r F L)
    (hB : Blk w r 61 #[.map (some b)]) (hR : RibM w F M L) (hFb : F b) (hf : Fr S w w') (hSF : ∀ i, S i → F i ∨ w.heap.size ≤ i) (hr : ¬ S r)
    (hM' : MapIs Tryz.prog 32 pxV slV w' b M') (hrow : RowT clsA L')
    (hS : ∀ q t g, q ≠ p → (q, t) ∈ M → t.1 = some ⟨g, 0, none⟩ → ¬ S g) (hL : ∀ q, q ≠ p → pathsT L' q = pathsT L q)
    (hin : ∀ q t, (q, t) ∈ M' → (q = p ∧ t = s') ∨ (q ≠ p ∧ (q, t) ∈ M)) (hself : (p, s') ∈ M') (hoth : ∀ q t, q ≠ p → (q, t) ∈ M → (q, t) ∈ M')
    (hg' : s'.1 = some ⟨g', 0, none⟩) (hnew : (∃ s, (p, s) ∈ M ∧ s.1 = s'.1) ∨ (w.heap.size ≤ g' ∧ g' < w'.heap.size)) (ho : Own w' 34 7 s'.1 s'.2.1 s'.2.2 (flat (pathsT L' p))) (hn : (pathsT L' p).length = s'.2.1) (hne : pathsT L' p ≠ []) :
    RibTo w r F L' w' := by
  have hgd : ¬ S 0 := fun k => (hSF _ k).elim h.nd fun k => by have := h.dst.lt; omega
  refine ⟨More F w w', ⟨⟨b, M', hB.fr hf hr, hM', hR.upd h.lt hf hS hL hin hself hoth hg' hnew ho hn hne, .inl hFb⟩, .inl h.at_, hrow, h.dst.fr hf hgd, ?_, ?_⟩, fun i hi => hi.sub, ?_⟩
  · rintro (k | k)
    · exact h.nd k
    · have := h.dst.lt
      omega
  · rintro i (k | k)
    · exact Nat.lt_of_lt_of_le (h.lt i k) hf.size
    · exact k.2
  · exact hf.mono fun i hi hs => (hSF i hs).elim id fun k => by omega
theorem RibIs.stepLess {w w' : World} {r b : Nat} {F S : Nat → Prop} {L L' : List Td} {M M' : List (Px × Sl)} {p : Px} (h : RibIs w r F L)
    (hB : Blk w r 61 #[.map (some b)]) (hR : RibM w F M L) (hFb : F b) (hf : Fr S w w') (hSF : ∀ i, S i → F i ∨ w.heap.size ≤ i) (hr : ¬ S r)
    (hM' : MapIs Tryz.prog 32 pxV slV w' b M') (hrow : RowT clsA L')
    (hS : ∀ q t g, q ≠ p → (q, t) ∈ M → t.1 = some ⟨g, 0, none⟩ → ¬ S g) (hL : ∀ q, q ≠ p → pathsT L' q = pathsT L q) (hp : pathsT L' p = [])
    (hin : ∀ q t, (q, t) ∈ M' → q ≠ p ∧ (q, t) ∈ M) (hoth : ∀ q t, q ≠ p → (q, t) ∈ M → (q, t) ∈ M') : RibTo w r F L' w' := by
  have hgd : ¬ S 0 := fun k => (hSF _ k).elim h.nd fun k => by have := h.dst.lt; omega
  refine ⟨F, ⟨⟨b, M', hB.fr hf hr, hM', hR.less hf hS hL hp hin hoth, hFb⟩, h.at_, hrow, h.dst.fr hf hgd, h.nd, fun i k => Nat.lt_of_lt_of_le (h.lt i k) hf.size⟩, fun i => .inl, ?_⟩
  exact hf.mono fun i hi hs => (hSF i hs).elim id fun k => by omega
/-- What the map holds at a prefix: a slice of its paths. -/
structure LookP (w : World) (F : Nat → Prop) (b : Nat) (M : List (Px × Sl)) (L : List Td) (p : Px) (A : Option Addr) (n c : Nat) : Prop where
  own : Own w 34 7 A n c (flat (pathsT L p))
  len : (pathsT L p).length = n
  look : ∀ W, MapIs Tryz.prog 32 pxV slV W b M → (Instr.lookup 59 (.map (some b)) (pxV p) false).run Tryz.prog W = .ok (.slice A n c) W
  how : (∃ (k g : Nat), M[k]? = some (p, (A, n, c)) ∧ A = some ⟨g, 0, none⟩ ∧ F g ∧ 0 < n) ∨ ((∀ e ∈ M, e.1 ≠ p) ∧ A = none ∧ n = 0 ∧ c = 0)
theorem look_at {w : World} {F : Nat → Prop} {b : Nat} {M : List (Px × Sl)} {L : List Td} (hR : RibM w F M L) (p : Px) (hp : p.ok) : ∃ A n c, LookP w F b M L p A n c := by
  rcases key_find M p with ⟨k, ⟨A, n, c⟩, hk⟩ | hno
  · obtain ⟨g, h1, h2, h3, h4, h5⟩ := hR.ent p _ (List.mem_of_getElem? hk)
    refine ⟨A, n, c, h3, h4, fun W hW => hW.look_some keyedP Tryz.underlying59 false hk, .inl ⟨k, g, hk, h1, h2, ?_⟩⟩
    simp only at h4
    have := List.length_pos_iff.2 h5
    omega
  · have e : pathsT L p = [] := by
      apply Classical.byContradiction
      intro hne
      obtain ⟨s, hs⟩ := hR.all p hne
      exact hno _ hs rfl
    obtain ⟨y, hy⟩ := key_px p hp
    refine ⟨none, 0, 0, by rw [e]; exact Own.nil_ _ _ _, by rw [e]; rfl, fun W hW => hW.look_none keyedP Tryz.underlying59 false (Tryz.zeroValue42 _) hy fun e he k => hno e he (pxV_inj k), .inr ⟨hno, rfl, rfl, rfl⟩⟩
end Go.Proofs.YtnklbeigikcfkaaGreatDoor
namespace Go.Proofs.YtnklbeigikcfkaaGreatDoor
open Go.Proofs Go.RowKit Go.ChangeShapes Go.WideShapes
open Go.Maps (Keyed)
section
variable {w : World}
set_option maxHeartbeats 6400000 in
set_option maxRecDepth 100000 in
theorem put_no (r : Nat) (p : Px) (x : Pa) (hp : p.ok) (hx : x.ok) (hm : mayA p x = false) : Calls Tryz.prog 17 #[.pointer (some ⟨r, 0, none⟩), pxV p, paV x] w fun e w' => e = .returned (.int .i64 140) ∧ Fr N0 w w' := by
  have km := fun (W : World) => hm ▸ may_ (w := W) p x hp hx
  clear hm hp hx
  obtain ⟨⟨s, h1, l⟩, m⟩ := p
  obtain ⟨q, z, ⟨s', h', l'⟩, o, a⟩ := x
  unfold pxV paV at *
  simp only at *
  go_enter Tryz.func17, Tryz.ntmps17
  go_wp2_with fail
  have HA1 := Lib.hid ((Blk.new w 32 #[Value.bool s, Value.int .u64 (h1 : Int), Value.int .u64 (l : Int), Value.int .i64 m]).alloc (.cells #[Value.int .i64 q, Value.int .i64 z, Value.bool s', Value.int .u64 (h' : Int), Value.int .u64 (l' : Int), Value.int .i64 o, Value.bool a] 34))
  have HA2 := Lib.hid (Blk.alloc2 w (.cells #[Value.bool s, Value.int .u64 (h1 : Int), Value.int .u64 (l : Int), Value.int .i64 m] 32) 34 #[Value.int .i64 q, Value.int .i64 z, Value.bool s', Value.int .u64 (h' : Int), Value.int .u64 (l' : Int), Value.int .i64 o, Value.bool a])
  have HF1 := Lib.hid (Fr.alloc (Fr.alloc (Fr.refl N0 w) (.cells #[Value.bool s, Value.int .u64 (h1 : Int), Value.int .u64 (l : Int), Value.int .i64 m] 32)) (.cells #[Value.int .i64 q, Value.int .i64 z, Value.bool s', Value.int .u64 (h' : Int), Value.int .u64 (l' : Int), Value.int .i64 o, Value.bool a] 34))
  generalize World.alloc (w.alloc _) _ = w1 at *
  obtain ⟨g2, hg2⟩ : ∃ g2, g2 = w.heap.size + 1 := ⟨_, rfl⟩
  rw [← hg2] at HA2 ⊢
  have HG2 : Hid (w.heap.size ≤ g2) := Lib.hid (by omega)
  obtain ⟨g1, hg1⟩ : ∃ g1, g1 = w.heap.size := ⟨_, rfl⟩
  rw [← hg1] at HA1 ⊢
  have HG1 : Hid (w.heap.size ≤ g1) := Lib.hid (by omega)
  have HN1_2 : Hid (g1 ≠ g2) := Lib.hid (by omega)
  clear hg1 hg2
  have HZ1 : Hid (∀ W, Fr N0 w1 W → Blk W g1 32 #[Value.bool s, Value.int .u64 (h1 : Int), Value.int .u64 (l : Int), Value.int .i64 m]) := Lib.hid fun W hf => HA1.out.fr hf id
  have HZ2 : Hid (∀ W, Fr N0 w1 W → Blk W g2 34 #[Value.int .i64 q, Value.int .i64 z, Value.bool s', Value.int .u64 (h' : Int), Value.int .u64 (l' : Int), Value.int .i64 o, Value.bool a]) := Lib.hid fun W hf => HA2.out.fr hf id
  have F := Lib.hid (Fr.refl N0 w1)
  refine (km _).mono ?_
  rintro e w2 ⟨rfl, hf⟩
  go_wp2_with fail
  go_ret
  exact ⟨rfl, HF1.out.trans hf⟩
set_option maxHeartbeats 12800000 in
set_option maxRecDepth 100000 in
theorem put_in (r : Nat) (Ft : Nat → Prop) (L : List Td) (p : Px) (x : Pa) (h : RibIs w r Ft L) (hp : p.ok) (hx : x.ok) (hm : mayA p x = true) (hw : (pathsT L p).any (sameW x) = true) :
    Calls Tryz.prog 17 #[.pointer (some ⟨r, 0, none⟩), pxV p, paV x] w fun e w' => e = .returned (.int .i64 (putT clsA L p x).2) ∧ RibTo w r Ft (putT clsA L p x).1 w' := by
  obtain ⟨b, M, hB, hM, hR, hFb⟩ := h.mem
  obtain ⟨A, n, c, K⟩ := look_at (b := b) hR p hp
  obtain ⟨i, hin, hbef, hati⟩ := way_find x (pathsT L p)
  have hil : i < (pathsT L p).length := by
    rcases Nat.lt_or_ge i (pathsT L p).length with k | k
    · exact k
    · exfalso
      obtain ⟨j, y, hj, hy⟩ := any_at hw
      rw [hbef j y (by have := (List.getElem?_eq_some_iff.1 hj).1; omega) hj] at hy
      cases hy
  obtain ⟨y, hy⟩ : ∃ y, (pathsT L p)[i]? = some y := ⟨_, List.getElem?_eq_getElem hil⟩
  have hyw := hati y hy
  have hlen := K.len
  obtain ⟨k, g, hk, rfl, hFg, hn0⟩ : ∃ (k g : Nat), M[k]? = some (p, (A, n, c)) ∧ A = some ⟨g, 0, none⟩ ∧ Ft g ∧ 0 < n := by
    rcases K.how with h | ⟨_, _, h, _⟩
    · exact h
    · omega
  have h4 : n ≤ 4 := by have := h.row.four p; omega
  have hokl : ∀ z ∈ pathsT L p, z.ok := fun z hz => (h.row.ok _ (mem_pathsT.1 hz)).2
  have HH := Lib.hid h
  have HBR := Lib.hid hB
  have HM := Lib.hid hM
  have HR := Lib.hid hR
  have HK := Lib.hid K
  have HI := Lib.hid (show i < n by omega)
  have HY := Lib.hid hy
  have HYW := Lib.hid hyw
  have HBEF := Lib.hid hbef
  have HAT := Lib.hid hati
  have HKK := Lib.hid hk
  have HFG := Lib.hid hFg
  have HFB := Lib.hid hFb
  have HOKL := Lib.hid hokl
  have HOX := Lib.hid hx
  have HPO := Lib.hid hp
  have HMAY := Lib.hid hm
  have km := fun (W : World) => hm ▸ may_ (w := W) p x hp hx
  have hiI : (i : Int) < (n : Int) := by omega
  clear h hB hM hR K hin hbef hati hil hy hyw hlen hk hFg hFb hokl hx hp hm hw
  have HWY := Lib.hid fun (W : World) (hW : Fr N0 w W) => way_ (w := W) x (some ⟨g, 0, none⟩) n c (pathsT L p) (HK.out.own.fr hW fun _ _ => id) HK.out.len (by omega) i (by have := HI.out; omega) HBEF.out HAT.out
  rw [if_pos HI.out] at HWY
  obtain ⟨⟨s, h1, l⟩, m⟩ := p
  obtain ⟨q, z, ⟨s', h', l'⟩, o, a⟩ := x
  unfold pxV paV at km ⊢
  unfold paV at HWY
  simp only at km HWY ⊢
  go_enter Tryz.func17, Tryz.ntmps17
  go_wp2_with fail
  have HA1 := Lib.hid ((Blk.new w 32 #[Value.bool s, Value.int .u64 (h1 : Int), Value.int .u64 (l : Int), Value.int .i64 m]).alloc (.cells #[Value.int .i64 q, Value.int .i64 z, Value.bool s', Value.int .u64 (h' : Int), Value.int .u64 (l' : Int), Value.int .i64 o, Value.bool a] 34))
  have HA2 := Lib.hid (Blk.alloc2 w (.cells #[Value.bool s, Value.int .u64 (h1 : Int), Value.int .u64 (l : Int), Value.int .i64 m] 32) 34 #[Value.int .i64 q, Value.int .i64 z, Value.bool s', Value.int .u64 (h' : Int), Value.int .u64 (l' : Int), Value.int .i64 o, Value.bool a])
  have HF1 := Lib.hid (Fr.alloc (Fr.alloc (Fr.refl N0 w) (.cells #[Value.bool s, Value.int .u64 (h1 : Int), Value.int .u64 (l : Int), Value.int .i64 m] 32)) (.cells #[Value.int .i64 q, Value.int .i64 z, Value.bool s', Value.int .u64 (h' : Int), Value.int .u64 (l' : Int), Value.int .i64 o, Value.bool a] 34))
  generalize World.alloc (w.alloc _) _ = w1 at *
  obtain ⟨g2, hg2⟩ : ∃ g2, g2 = w.heap.size + 1 := ⟨_, rfl⟩
  rw [← hg2] at HA2 ⊢
  have HG2 : Hid (w.heap.size ≤ g2) := Lib.hid (by omega)
  obtain ⟨g1, hg1⟩ : ∃ g1, g1 = w.heap.size := ⟨_, rfl⟩
  rw [← hg1] at HA1 ⊢
  have HG1 : Hid (w.heap.size ≤ g1) := Lib.hid (by omega)
  have HN1_2 : Hid (g1 ≠ g2) := Lib.hid (by omega)
  clear hg1 hg2
  have HZ1 : Hid (∀ W, Fr N0 w1 W → Blk W g1 32 #[Value.bool s, Value.int .u64 (h1 : Int), Value.int .u64 (l : Int), Value.int .i64 m]) := Lib.hid fun W hf => HA1.out.fr hf id
  have HZ2 : Hid (∀ W, Fr N0 w1 W → Blk W g2 34 #[Value.int .i64 q, Value.int .i64 z, Value.bool s', Value.int .u64 (h' : Int), Value.int .u64 (l' : Int), Value.int .i64 o, Value.bool a]) := Lib.hid fun W hf => HA2.out.fr hf id
  have F := Lib.hid (Fr.refl N0 w1)
  refine (km _).mono ?_
  rintro e w2 ⟨rfl, hf⟩
  obtain ⟨x0, x1, x2, x3⟩ := (HZ1.out _ hf).c4
  obtain ⟨y0, y1, y2, y3, y4, y5, y6⟩ := (HZ2.out _ hf).c7
  have F2 := Lib.hid (HF1.out.trans hf)
  have Z2 := Lib.hid hf
  have cr := (HBR.out.fr F2.out id).c1'
  have hltr : r < w2.heap.size := (HBR.out.fr F2.out id).lt
  have hrun := HK.out.look w2.drew ((HM.out.fr F2.out id).drewN 1)
  unfold pxV at hrun
  simp only at hrun
  clear hf km
  go_wp2_with fail
  go_region
  go_wp2_with fail
  refine (HWY.out _ F2.out.drew).mono ?_
  rintro e w3 ⟨rfl, hf⟩
  have F3 := Lib.hid (F2.out.drew.trans hf)
  have Z3 := Lib.hid (Z2.out.drew.trans hf)
  clear hf x0 x1 x2 x3 y0 y1 y2 y3 y4 y5 y6 cr hltr hrun F2 Z2
  obtain ⟨y0, y1, y2, y3, y4, y5, y6⟩ := (HZ2.out _ Z3.out).c7
  have ho := HK.out.own.fr F3.out fun _ _ => id
  have HO := Lib.hid ho
  obtain ⟨e0, e1, e2, e3, e4, e5, e6⟩ := ho.e7 HK.out.len HY.out
  have hfz := ho.cell_none
  have HO2 := Lib.hid (ho.put (i := i) (by rw [HK.out.len]; exact HI.out) (⟨q, z, ⟨s', h', l'⟩, o, a⟩ : Pa))
  have HF2 := Lib.hid (Fr.setsC (S := fun i => i = g) (g := g) (Pa.cs ⟨q, z, ⟨s', h', l'⟩, o, a⟩) (i * 7) (F3.out.mono fun _ _ h => h.elim) (.inl rfl))
  have HZ9 := Lib.hid (Fr.setsC (S := fun i => i = g) (g := g) (Pa.cs ⟨q, z, ⟨s', h', l'⟩, o, a⟩) (i * 7) (Z3.out.mono fun _ _ h => h.elim) (.inl rfl))
  have ho2 := HO2.out
  have hf2 := HF2.out
  have hz2 := HZ9.out
  simp only [Cells.cs] at ho2
  rw [sets7] at ho2 hf2 hz2
  have HO3 := Lib.hid ho2
  have HF3 := Lib.hid hf2
  have HZ3 := Lib.hid hz2
  clear HO2 HF2 HZ9 ho2 hf2 hz2 ho HO
  go_wp2_with fail
  generalize World.setCell (World.setCell (World.setCell (World.setCell (World.setCell (World.setCell (World.setCell w3 _ _) _ _) _ _) _ _) _ _) _ _) _ _ = w4 at *
  clear e0 e1 e2 e3 e4 e5 e6 y0 y1 y2 y3 y4 y5 y6 hfz
  have hgd : g ≠ 0 := fun e => HH.out.nd (e ▸ HFG.out)
  have hgr : r ≠ g := fun e => own_ne_other HK.out.own HBR.out (by decide) e.symm
  have hgb : b ≠ g := fun e => own_ne_map HK.out.own HM.out e.symm
  have hgw : g < w.heap.size := HH.out.lt g HFG.out
  have hg1 : g1 ≠ g := by have := HG1.out; omega
  refine (srt_ g n c ((pathsT L ⟨⟨s, h1, l⟩, m⟩).set i ⟨q, z, ⟨s', h', l'⟩, o, a⟩) (fun z hz => (List.mem_or_eq_of_mem_set hz).elim (HOKL.out z) fun e => e ▸ HOX.out) (HH.out.dst.fr HF3.out fun e => hgd e.symm) (by rw [List.length_set, HK.out.len]) (by omega) HO3.out hgd).mono ?_
  rintro e w5 ⟨rfl, d, hdp, hdu, hdo, hf5⟩
  have hpo := put_old HH.out.row HPO.out.ad HOX.out HMAY.out HY.out HYW.out hdp hdu
  have F5 := Lib.hid (HF3.out.trans hf5)
  have Z5 := Lib.hid (HZ3.out.trans hf5)
  have HPOL := Lib.hid hpo
  have HDO := Lib.hid hdo
  clear hpo hdp hdu hdo hf5 HF3 HZ3 HO3 F3 Z3
  obtain ⟨x0, x1, x2, x3⟩ := (HA1.out.fr Z5.out hg1).c4
  have cr := (HBR.out.fr F5.out hgr).c1'
  have hltr : r < w5.heap.size := (HBR.out.fr F5.out hgr).lt
  have M5 := HM.out.fr F5.out hgb
  obtain ⟨w6, hrun, hM6, f6, hs6⟩ := (M5.drewN 1).store_old keyedP Tryz.underlying59 ((some ⟨g, 0, none⟩, n, c) : Sl) HKK.out
  have hrun' : (Instr.mapUpdate 59 (.map (some b)) (.agg #[.bool s, .int .u64 (h1 : Int), .int .u64 (l : Int), .int .i64 m]) (.slice (some ⟨g, 0, none⟩) n c)).run Tryz.prog w5.drew = .ok () w6 := hrun
  have HM6 := Lib.hid hM6
  have F6 := Lib.hid (show Fr (fun j => j = b) w5.drew w6 from f6)
  clear hrun hM6 f6 hs6 M5
  go_wp2_with fail
  go_region
  go_wp2_with fail
  go_ret
  refine ⟨by rw [HPOL.out.2]; rfl, ?_⟩
  have hf : Fr (fun j => j = g ∨ j = b) w w6 := ((F5.out.mono fun _ _ h => .inl h).drew).trans (F6.out.mono fun _ _ h => .inr h)
  have e := HPOL.out.1
  have hrow := HH.out.row.put HPO.out.ad HOX.out (p := ⟨⟨s, h1, l⟩, m⟩)
  refine HH.out.step HBR.out HR.out HFB.out hf (fun j hj => .inl (hj.elim (fun e => e ▸ HFG.out) fun e => e ▸ HFB.out)) (fun hr => hr.elim hgr fun e => ?_) HM6.out hrow (p := ⟨⟨s, h1, l⟩, m⟩) (s' := (some ⟨g, 0, none⟩, n, c)) (g' := g) ?_ (fun q hq => put_ne _ hq)
    (fun q t hm => set_mem HM.out.apart HKK.out hm) (self_set HKK.out _) (fun q t hq hm => mem_set HKK.out hq hm) rfl (.inl ⟨_, List.mem_of_getElem? HKK.out, rfl⟩) ?_ ?_ ?_
  · subst e
    obtain ⟨es, clock, hh, _⟩ := HM.out
    have hb := HBR.out
    unfold Blk at hb
    rw [hh] at hb
    cases hb
  · intro q t g' hq hm ht hs
    rcases hs with rfl | rfl
    · exact hq (HR.out.apart q t _ _ hm (List.mem_of_getElem? HKK.out) ht)
    · obtain ⟨g3, e3, _, ho3, _⟩ := HR.out.ent q t hm
      rw [ht] at e3
      cases e3
      rw [ht] at ho3
      exact own_ne_map ho3 HM.out rfl
  · rw [← e]
    exact (HDO.out.fr ((Fr.refl N0 w5).drew) fun _ _ => id).fr F6.out fun j hj (hb : j = b) => by cases hj; exact hgb hb.symm
  · rw [← e]
    have := HDO.out.1
    rw [flat_length] at this
    simp only
    omega
  · rw [← e]
    intro e0
    have := HDO.out.1
    rw [e0, flat_length] at this
    simp at this
    omega
end
end Go.Proofs.YtnklbeigikcfkaaGreatDoor
namespace Go.Proofs.YtnklbeigikcfkaaGreatDoor
open Go.Proofs Go.RowKit Go.ChangeShapes Go.WideShapes
open Go.Maps (Keyed)
section
variable {w : World}
set_option maxHeartbeats 12800000 in
set_option maxRecDepth 100000 in
theorem put_fl (r : Nat) (Ft : Nat → Prop) (L : List Td) (p : Px) (x : Pa) (h : RibIs w r Ft L) (hp : p.ok) (hx : x.ok) (hm : mayA p x = true) (hw : (pathsT L p).any (sameW x) = false) (hfull : 4 ≤ (pathsT L p).length ∨ (pathsT L p = [] ∧ 90 ≤ (prefsT L).length)) :
    Calls Tryz.prog 17 #[.pointer (some ⟨r, 0, none⟩), pxV p, paV x] w fun e w' => e = .returned (.int .i64 141) ∧ Fr N0 w w' := by
  obtain ⟨b, M, hB, hM, hR, hFb⟩ := h.mem
  obtain ⟨A, n, c, K⟩ := look_at (b := b) hR p hp
  have hlen := K.len
  have hcase : n = 4 ∨ (((n : Int) == 4) = false ∧ n = 0 ∧ M.length = 90) := by
    rcases hfull with k | ⟨k1, k2⟩
    · have := h.row.four p
      exact .inl (by omega)
    · have hn : n = 0 := by rw [← hlen, k1]; rfl
      refine .inr ⟨by subst hn; decide, hn, ?_⟩
      have := hR.len hM.apart h.row.up
      have := h.row.many
      omega
  have HBR := Lib.hid hB
  have HM := Lib.hid hM
  have HK := Lib.hid K
  have km := fun (W : World) => hm ▸ may_ (w := W) p x hp hx
  have hbef : ∀ j y, j < n → (pathsT L p)[j]? = some y → sameW x y = false := fun j y _ hy => by
    rw [List.any_eq_false] at hw
    simpa using hw y (List.mem_of_getElem? hy)
  have hn4 : n ≤ 4 := by have := h.row.four p; omega
  have HWY := Lib.hid fun (W : World) (hW : Fr N0 w W) => way_ (w := W) x A n c (pathsT L p) (HK.out.own.fr hW fun _ _ => id) HK.out.len (by omega) n (Nat.le_refl _) hbef (fun y hy => by rw [List.getElem?_eq_none (by omega)] at hy; cases hy)
  rw [if_neg (Nat.lt_irrefl n)] at HWY
  clear h hB hM hR K hlen hfull hw hbef hm hp hx hFb
  obtain ⟨⟨s, h1, l⟩, m⟩ := p
  obtain ⟨q, z, ⟨s', h', l'⟩, o, a⟩ := x
  unfold pxV paV at km ⊢
  unfold paV at HWY
  simp only at km HWY ⊢
  go_enter Tryz.func17, Tryz.ntmps17
  go_wp2_with fail
  have HA1 := Lib.hid ((Blk.new w 32 #[Value.bool s, Value.int .u64 (h1 : Int), Value.int .u64 (l : Int), Value.int .i64 m]).alloc (.cells #[Value.int .i64 q, Value.int .i64 z, Value.bool s', Value.int .u64 (h' : Int), Value.int .u64 (l' : Int), Value.int .i64 o, Value.bool a] 34))
  have HA2 := Lib.hid (Blk.alloc2 w (.cells #[Value.bool s, Value.int .u64 (h1 : Int), Value.int .u64 (l : Int), Value.int .i64 m] 32) 34 #[Value.int .i64 q, Value.int .i64 z, Value.bool s', Value.int .u64 (h' : Int), Value.int .u64 (l' : Int), Value.int .i64 o, Value.bool a])
  have HF1 := Lib.hid (Fr.alloc (Fr.alloc (Fr.refl N0 w) (.cells #[Value.bool s, Value.int .u64 (h1 : Int), Value.int .u64 (l : Int), Value.int .i64 m] 32)) (.cells #[Value.int .i64 q, Value.int .i64 z, Value.bool s', Value.int .u64 (h' : Int), Value.int .u64 (l' : Int), Value.int .i64 o, Value.bool a] 34))
  generalize World.alloc (w.alloc _) _ = w1 at *
  obtain ⟨g2, hg2⟩ : ∃ g2, g2 = w.heap.size + 1 := ⟨_, rfl⟩
  rw [← hg2] at HA2 ⊢
  have HG2 : Hid (w.heap.size ≤ g2) := Lib.hid (by omega)
  obtain ⟨g1, hg1⟩ : ∃ g1, g1 = w.heap.size := ⟨_, rfl⟩
  rw [← hg1] at HA1 ⊢
  have HG1 : Hid (w.heap.size ≤ g1) := Lib.hid (by omega)
  have HN1_2 : Hid (g1 ≠ g2) := Lib.hid (by omega)
  clear hg1 hg2
  have HZ1 : Hid (∀ W, Fr N0 w1 W → Blk W g1 32 #[Value.bool s, Value.int .u64 (h1 : Int), Value.int .u64 (l : Int), Value.int .i64 m]) := Lib.hid fun W hf => HA1.out.fr hf id
  have HZ2 : Hid (∀ W, Fr N0 w1 W → Blk W g2 34 #[Value.int .i64 q, Value.int .i64 z, Value.bool s', Value.int .u64 (h' : Int), Value.int .u64 (l' : Int), Value.int .i64 o, Value.bool a]) := Lib.hid fun W hf => HA2.out.fr hf id
  have F := Lib.hid (Fr.refl N0 w1)
  refine (km _).mono ?_
  rintro e w2 ⟨rfl, hf⟩
  obtain ⟨x0, x1, x2, x3⟩ := (HZ1.out _ hf).c4
  obtain ⟨y0, y1, y2, y3, y4, y5, y6⟩ := (HZ2.out _ hf).c7
  have F2 := Lib.hid (HF1.out.trans hf)
  have cr := (HBR.out.fr F2.out id).c1'
  have hltr : r < w2.heap.size := (HBR.out.fr F2.out id).lt
  have hrun := HK.out.look w2.drew ((HM.out.fr F2.out id).drewN 1)
  unfold pxV at hrun
  simp only at hrun
  clear hf km
  go_wp2_with fail
  go_region
  go_wp2_with fail
  refine (HWY.out _ F2.out.drew).mono ?_
  rintro e w3 ⟨rfl, hf⟩
  have F3 := Lib.hid (F2.out.drew.trans hf)
  clear hf x0 x1 x2 x3 y0 y1 y2 y3 y4 y5 y6 cr hltr hrun F2
  have cr := (HBR.out.fr F3.out id).c1'
  have hltr : r < w3.heap.size := (HBR.out.fr F3.out id).lt
  have hlm : (Builtin.len_ #[59] 3 #[.map (some b)]).run Tryz.prog w3 = .ok (.int .i64 (M.length : Int)) w3 := (HM.out.fr F3.out id).len Tryz.underlying59 _
  rcases hcase with rfl | ⟨t4, rfl, h90⟩
  · go_wp2_with fail
    go_ret
    exact ⟨rfl, F3.out⟩
  · rw [h90] at hlm
    clear HK
    go_wp2_with fail
    go_ret
    exact ⟨rfl, F3.out⟩
end
end Go.Proofs.YtnklbeigikcfkaaGreatDoor
namespace Go.Proofs.YtnklbeigikcfkaaGreatDoor
open Go.Proofs Go.RowKit Go.ChangeShapes Go.WideShapes
open Go.Maps (Keyed)
theorem infoPa : (Tryz.prog.info? 34).map (fun i => (i.zero, i.size, i.bytes)) = some (some (.agg #[.int .i64 0, .int .i64 0, .bool false, .int .u64 0, .int .u64 0, .int .i64 0, .bool false]), 7, 56) := by kernel_rfl
section
variable {w : World}
set_option maxHeartbeats 12800000 in
set_option maxRecDepth 100000 in
theorem put_nw (r : Nat) (Ft : Nat → Prop) (L : List Td) (p : Px) (x : Pa) (h : RibIs w r Ft L) (hp : p.ok) (hx : x.ok) (hm : mayA p x = true) (hw : (pathsT L p).any (sameW x) = false) (hroom : ¬ (4 ≤ (pathsT L p).length ∨ (pathsT L p = [] ∧ 90 ≤ (prefsT L).length))) :
    Calls Tryz.prog 17 #[.pointer (some ⟨r, 0, none⟩), pxV p, paV x] w fun e w' => e = .returned (.int .i64 (putT clsA L p x).2) ∧ RibTo w r Ft (putT clsA L p x).1 w' := by
  obtain ⟨b, M, hB, hM, hR, hFb⟩ := h.mem
  obtain ⟨A, n, c, K⟩ := look_at (b := b) hR p hp
  have hlen := K.len
  have hn4 : n < 4 := by
    rw [← hlen]
    apply Nat.lt_of_not_le
    exact fun k => hroom (.inl k)
  have t4 : ((n : Int) == 4) = false := by rw [beq_eq_false_iff_ne]; omega
  have hcase : (0 < n ∧ ((n : Int) == 0) = false) ∨ (n = 0 ∧ ((M.length : Int) == 90) = false) := by
    by_cases hn : n = 0
    · refine .inr ⟨hn, ?_⟩
      have e : pathsT L p = [] := List.length_eq_zero_iff.1 (hlen.trans hn)
      have := hR.len hM.apart h.row.up
      have hlt : ¬ 90 ≤ (prefsT L).length := fun k => hroom (.inr ⟨e, k⟩)
      rw [beq_eq_false_iff_ne]
      omega
    · exact .inl ⟨by omega, by rw [beq_eq_false_iff_ne]; omega⟩
  have hokl : ∀ z ∈ pathsT L p, z.ok := fun z hz => (h.row.ok _ (mem_pathsT.1 hz)).2
  have HH := Lib.hid h
  have HBR := Lib.hid hB
  have HM := Lib.hid hM
  have HR := Lib.hid hR
  have HK := Lib.hid K
  have HW := Lib.hid hw
  have HROOM := Lib.hid hroom
  have HFB := Lib.hid hFb
  have HOKL := Lib.hid hokl
  have HOX := Lib.hid hx
  have HPO := Lib.hid hp
  have HMAY := Lib.hid hm
  have km := fun (W : World) => hm ▸ may_ (w := W) p x hp hx
  have hbef : ∀ j y, j < n → (pathsT L p)[j]? = some y → sameW x y = false := fun j y _ hy => by
    rw [List.any_eq_false] at hw
    simpa using hw y (List.mem_of_getElem? hy)
  have HWY := Lib.hid fun (W : World) (hW : Fr N0 w W) => way_ (w := W) x A n c (pathsT L p) (HK.out.own.fr hW fun _ _ => id) HK.out.len (by omega) n (Nat.le_refl _) hbef (fun y hy => by rw [List.getElem?_eq_none (by omega)] at hy; cases hy)
  rw [if_neg (Nat.lt_irrefl n)] at HWY
  have HAF := Lib.hid (show ∀ i, A = some ⟨i, 0, none⟩ → Ft i ∧ r ≠ i ∧ b ≠ i from by
    intro i hi
    subst hi
    refine ⟨?_, fun e => own_ne_other HK.out.own HBR.out (by decide) e.symm, fun e => own_ne_map HK.out.own HM.out e.symm⟩
    rcases HK.out.how with ⟨_, g, _, e, hF, _⟩ | ⟨_, e, _⟩
    · cases e; exact hF
    · cases e)
  have HUP := Lib.hid (show ∀ (W : World) (s' : Sl), MapIs Tryz.prog 32 pxV slV W b M → ∃ w6 M', (Instr.mapUpdate 59 (.map (some b)) (pxV p) (slV s')).run Tryz.prog W = .ok () w6 ∧ MapIs Tryz.prog 32 pxV slV w6 b M' ∧ Fr (fun j => j = b) W w6 ∧
        (∀ q t, (q, t) ∈ M' → (q = p ∧ t = s') ∨ (q ≠ p ∧ (q, t) ∈ M)) ∧ ((p, s') ∈ M') ∧ (∀ q t, q ≠ p → (q, t) ∈ M → (q, t) ∈ M') from by
    intro W s' M5
    rcases HK.out.how with ⟨k, g, hk, _⟩ | ⟨hno, _⟩
    · obtain ⟨w6, hrun, hM6, f6, _⟩ := M5.store_old keyedP Tryz.underlying59 s' hk
      exact ⟨w6, _, hrun, hM6, f6, fun q t hm => set_mem HM.out.apart hk hm, self_set hk _, fun q t hq hm => mem_set hk hq hm⟩
    · obtain ⟨y, hy⟩ := key_px p HPO.out
      obtain ⟨w6, hrun, hM6, f6, _⟩ := M5.store_new keyedP Tryz.underlying59 s' hy fun e he k => hno e he (pxV_inj k)
      refine ⟨w6, _, hrun, hM6, f6, fun q t hm => ?_, List.mem_append_right _ List.mem_cons_self, fun q t _ hm => List.mem_append_left _ hm⟩
      rcases List.mem_append.1 hm with hm | hm
      · exact .inr ⟨fun e => hno _ hm e, hm⟩
      · have := List.mem_singleton.1 hm
        cases this
        exact .inl ⟨rfl, rfl⟩)
  have HNEW := Lib.hid (show ∀ g', A = some ⟨g', 0, none⟩ → ∃ s, (p, s) ∈ M ∧ s.1 = some ⟨g', 0, none⟩ from by
    intro g' k
    rcases HK.out.how with ⟨k2, g, hk, _⟩ | ⟨_, e, _⟩
    · exact ⟨_, List.mem_of_getElem? hk, k⟩
    · rw [k] at e; cases e)
  have HOTH := Lib.hid (show ∀ q t g3, q ≠ p → (q, t) ∈ M → t.1 = some ⟨g3, 0, none⟩ → ¬ A = some ⟨g3, 0, none⟩ from by
    intro q t g3 hq hm ht hA
    rcases HK.out.how with ⟨k, g, hk, _⟩ | ⟨_, e, _⟩
    · exact hq (HR.out.apart q t _ _ hm (List.mem_of_getElem? hk) (ht.trans hA.symm))
    · rw [hA] at e; cases e)
  have HCASE := Lib.hid (show (0 < n ∧ ((n : Int) == 0) = false) ∨ (n = 0 ∧ A = none ∧ c = 0 ∧ ((M.length : Int) == 90) = false) from by
    rcases hcase with h | ⟨h1, h2⟩
    · exact .inl h
    · rcases HK.out.how with ⟨_, _, _, _, _, h⟩ | ⟨_, e1, _, e2⟩
      · omega
      · exact .inr ⟨h1, e1, e2, h2⟩)
  clear h hB hM hR K hlen hroom hw hbef hm hp hx hFb hokl hcase
  obtain ⟨⟨s, h1, l⟩, m⟩ := p
  obtain ⟨q, z, ⟨s', h', l'⟩, o, a⟩ := x
  unfold pxV paV at km ⊢
  unfold paV at HWY
  simp only at km HWY ⊢
  go_enter Tryz.func17, Tryz.ntmps17
  go_wp2_with fail
  have HA1 := Lib.hid ((Blk.new w 32 #[Value.bool s, Value.int .u64 (h1 : Int), Value.int .u64 (l : Int), Value.int .i64 m]).alloc (.cells #[Value.int .i64 q, Value.int .i64 z, Value.bool s', Value.int .u64 (h' : Int), Value.int .u64 (l' : Int), Value.int .i64 o, Value.bool a] 34))
  have HA2 := Lib.hid (Blk.alloc2 w (.cells #[Value.bool s, Value.int .u64 (h1 : Int), Value.int .u64 (l : Int), Value.int .i64 m] 32) 34 #[Value.int .i64 q, Value.int .i64 z, Value.bool s', Value.int .u64 (h' : Int), Value.int .u64 (l' : Int), Value.int .i64 o, Value.bool a])
  have HF1 := Lib.hid (Fr.alloc (Fr.alloc (Fr.refl N0 w) (.cells #[Value.bool s, Value.int .u64 (h1 : Int), Value.int .u64 (l : Int), Value.int .i64 m] 32)) (.cells #[Value.int .i64 q, Value.int .i64 z, Value.bool s', Value.int .u64 (h' : Int), Value.int .u64 (l' : Int), Value.int .i64 o, Value.bool a] 34))
  generalize World.alloc (w.alloc _) _ = w1 at *
  obtain ⟨g2, hg2⟩ : ∃ g2, g2 = w.heap.size + 1 := ⟨_, rfl⟩
  rw [← hg2] at HA2 ⊢
  have HG2 : Hid (w.heap.size ≤ g2) := Lib.hid (by omega)
  obtain ⟨g1, hg1⟩ : ∃ g1, g1 = w.heap.size := ⟨_, rfl⟩
  rw [← hg1] at HA1 ⊢
  have HG1 : Hid (w.heap.size ≤ g1) := Lib.hid (by omega)
  have HN1_2 : Hid (g1 ≠ g2) := Lib.hid (by omega)
  clear hg1 hg2
  have HZ1 : Hid (∀ W, Fr N0 w1 W → Blk W g1 32 #[Value.bool s, Value.int .u64 (h1 : Int), Value.int .u64 (l : Int), Value.int .i64 m]) := Lib.hid fun W hf => HA1.out.fr hf id
  have HZ2 : Hid (∀ W, Fr N0 w1 W → Blk W g2 34 #[Value.int .i64 q, Value.int .i64 z, Value.bool s', Value.int .u64 (h' : Int), Value.int .u64 (l' : Int), Value.int .i64 o, Value.bool a]) := Lib.hid fun W hf => HA2.out.fr hf id
  have F := Lib.hid (Fr.refl N0 w1)
  refine (km _).mono ?_
  rintro e w2 ⟨rfl, hf⟩
  obtain ⟨x0, x1, x2, x3⟩ := (HZ1.out _ hf).c4
  obtain ⟨y0, y1, y2, y3, y4, y5, y6⟩ := (HZ2.out _ hf).c7
  have F2 := Lib.hid (HF1.out.trans hf)
  have Z2 := Lib.hid hf
  have cr := (HBR.out.fr F2.out id).c1'
  have hltr : r < w2.heap.size := (HBR.out.fr F2.out id).lt
  have hrun := HK.out.look w2.drew ((HM.out.fr F2.out id).drewN 1)
  unfold pxV at hrun
  simp only at hrun
  clear hf km
  go_wp2_with fail
  go_region
  go_wp2_with fail
  refine (HWY.out _ F2.out.drew).mono ?_
  rintro e w3 ⟨rfl, hf⟩
  have F3 := Lib.hid (F2.out.drew.trans hf)
  have Z3 := Lib.hid (Z2.out.drew.trans hf)
  clear hf x0 x1 x2 x3 y0 y1 y2 y3 y4 y5 y6 cr hltr hrun F2 Z2
  have cr := (HBR.out.fr F3.out id).c1'
  have hltr : r < w3.heap.size := (HBR.out.fr F3.out id).lt
  have hlm : (Builtin.len_ #[59] 3 #[.map (some b)]).run Tryz.prog w3 = .ok (.int .i64 (M.length : Int)) w3 := (HM.out.fr F3.out id).len Tryz.underlying59 _
  obtain ⟨y0, y1, y2, y3, y4, y5, y6⟩ := (HZ2.out _ Z3.out).c7
  obtain ⟨i0, hi, hz0, hz1, hz2⟩ := info_parts infoPa
  have HO := Lib.hid (HK.out.own.fr F3.out fun _ _ => id)
  rcases HCASE.out with ⟨hn0, t0⟩ | ⟨rfl, rfl, rfl, t0⟩
  · go_wp2_with (at_builtin; refine wpList_append1 w3 rfl (.tmp 23) (.tmp 25) 42 rfl 34 i0 _ 7 56 Tryz.underlying42 hi hz0 hz1 hz2 rfl (by omega) A n c _ rfl HO.out (Pa.cs ⟨q, z, ⟨s', h', l'⟩, o, a⟩) rfl rfl ?_ ?_ ?_ ?_)
    · intro u hu; simp [Pa.cs] at hu; rcases hu with rfl | rfl | rfl | rfl | rfl | rfl | rfl <;> rfl
    · omega
    · omega
    · intro g' c' w4 ho f7 hg'
      have e1 : flat (pathsT L ⟨⟨s, h1, l⟩, m⟩) ++ Pa.cs ⟨q, z, ⟨s', h', l'⟩, o, a⟩ = flat (pathsT L ⟨⟨s, h1, l⟩, m⟩ ++ [⟨q, z, ⟨s', h', l'⟩, o, a⟩]) := by rw [flat_append, flat_one]; rfl
      rw [e1] at ho
      have HO4 := Lib.hid ho
      have F4 := Lib.hid ((F3.out.mono (S' := fun i => A = some ⟨i, 0, none⟩) fun _ _ h => h.elim).trans f7)
      have Z4 := Lib.hid ((Z3.out.mono (S' := fun i => A = some ⟨i, 0, none⟩) fun _ _ h => h.elim).trans f7)
      have HG := Lib.hid (show A = some ⟨g', 0, none⟩ ∨ w.heap.size ≤ g' from hg'.imp_right fun k => Nat.le_trans F3.out.size k)
      have HG1Z := Lib.hid (show A = some ⟨g', 0, none⟩ ∨ w1.heap.size ≤ g' from hg'.imp_right fun k => Nat.le_trans Z3.out.size k)
      clear ho f7 hg' y0 y1 y2 y3 y4 y5 y6 cr hltr hlm hi hz0 hz1 hz2 F3 Z3 HO t0
      go_wp2_with fail
      have hAF := HAF.out
      have hrw := HH.out.lt r HH.out.at_
      have hbw := HH.out.lt b HFB.out
      have hdw := HH.out.dst.lt
      have hgr : r ≠ g' := HG.out.elim (fun k => (hAF g' k).2.1) fun k => by omega
      have hgb : b ≠ g' := HG.out.elim (fun k => (hAF g' k).2.2) fun k => by omega
      have hgd : g' ≠ 0 := fun e => HG.out.elim (fun k => HH.out.nd (e ▸ (hAF g' k).1)) fun k => by omega
      refine (srt_ g' (n + 1) c' (pathsT L ⟨⟨s, h1, l⟩, m⟩ ++ [⟨q, z, ⟨s', h', l'⟩, o, a⟩]) (fun z hz => (List.mem_append.1 hz).elim (HOKL.out z) fun e => List.mem_singleton.1 e ▸ HOX.out) (HH.out.dst.fr F4.out fun e => HH.out.nd (hAF _ e).1) (by rw [List.length_append, HK.out.len]; rfl) (by omega) HO4.out hgd).mono ?_
      rintro e w5 ⟨rfl, d, hdp, hdu, hdo, hf5⟩
      have hpo := put_new HH.out.row HPO.out.ad HOX.out HMAY.out HW.out HROOM.out hdp hdu
      have F5 := Lib.hid ((F4.out.mono (S' := fun i => A = some ⟨i, 0, none⟩ ∨ i = g') fun _ _ h => .inl h).trans (hf5.mono fun _ _ h => .inr h))
      have Z5 := Lib.hid ((Z4.out.mono (S' := fun i => A = some ⟨i, 0, none⟩ ∨ i = g') fun _ _ h => .inl h).trans (hf5.mono fun _ _ h => .inr h))
      have HPOL := Lib.hid hpo
      have HDO := Lib.hid hdo
      clear hpo hdp hdu hdo hf5 F4 Z4 HO4 hAF
      have hg1 : ¬ (A = some ⟨g1, 0, none⟩ ∨ g1 = g') := by
        have h1 := HG1.out
        have h2 := HA1.out.lt
        rintro (k | k)
        · have := HH.out.lt _ (HAF.out _ k).1
          omega
        · subst k
          rcases HG1Z.out with k | k
          · have := HH.out.lt _ (HAF.out _ k).1
            omega
          · omega
      obtain ⟨x0, x1, x2, x3⟩ := (HA1.out.fr Z5.out hg1).c4
      have hnr : ¬ (A = some ⟨r, 0, none⟩ ∨ r = g') := fun k => k.elim (fun k => (HAF.out _ k).2.1 rfl) hgr
      have hnb : ¬ (A = some ⟨b, 0, none⟩ ∨ b = g') := fun k => k.elim (fun k => (HAF.out _ k).2.2 rfl) hgb
      have cr := (HBR.out.fr F5.out hnr).c1'
      have hltr : r < w5.heap.size := (HBR.out.fr F5.out hnr).lt
      have M5 := (HM.out.fr F5.out hnb).drewN 1
      have hup := HUP.out (w5.drewN 1) (some ⟨g', 0, none⟩, n + 1, c') M5
      obtain ⟨w6, M', hrun, hM6, f6, hin, hself, hoth⟩ := hup
      have hrun' : (Instr.mapUpdate 59 (.map (some b)) (.agg #[.bool s, .int .u64 (h1 : Int), .int .u64 (l : Int), .int .i64 m]) (.slice (some ⟨g', 0, none⟩) (n + 1) c')).run Tryz.prog w5.drew = .ok () w6 := hrun
      have HM6 := Lib.hid hM6
      have F6 := Lib.hid (show Fr (fun j => j = b) w5.drew w6 from f6)
      have HIN := Lib.hid hin
      have HSELF := Lib.hid hself
      have HOT2 := Lib.hid hoth
      clear hrun hM6 f6 M5 hin hself hoth
      go_wp2_with fail
      go_region
      go_wp2_with fail
      go_ret
      refine ⟨by rw [HPOL.out.2]; rfl, ?_⟩
      have hf : Fr (fun j => (A = some ⟨j, 0, none⟩ ∨ j = g') ∨ j = b) w w6 := ((F5.out.mono fun _ _ h => .inl h).drew).trans (F6.out.mono fun _ _ h => .inr h)
      have e := HPOL.out.1
      have hrow := HH.out.row.put HPO.out.ad HOX.out (p := ⟨⟨s, h1, l⟩, m⟩)
      have hlt6 : g' < w6.heap.size := Nat.lt_of_lt_of_le (HDO.out.lt rfl) (Nat.le_trans (Fr.refl N0 w5).drew.size F6.out.size)
      refine HH.out.step HBR.out HR.out HFB.out hf ?_ ?_ HM6.out hrow (p := ⟨⟨s, h1, l⟩, m⟩) (s' := (some ⟨g', 0, none⟩, n + 1, c')) (g' := g') ?_ (fun q hq => put_ne _ hq) HIN.out HSELF.out HOT2.out rfl ?_ ?_ ?_ ?_
      · rintro j ((k | rfl) | rfl)
        · exact .inl (HAF.out j k).1
        · exact HG.out.imp_left fun k => (HAF.out _ k).1
        · exact .inl HFB.out
      · rintro (k | rfl)
        · exact hnr k
        · obtain ⟨es, clock, hh, _⟩ := HM.out
          have hb := HBR.out
          unfold Blk at hb
          rw [hh] at hb
          cases hb
      · rintro q t g3 hq hm ht hs
        obtain ⟨g4, e3, hF3, ho3, _⟩ := HR.out.ent q t hm
        rw [ht] at e3 ho3
        cases e3
        have hA := HOTH.out q t g3 hq hm ht
        rcases hs with (hs | rfl) | rfl
        · exact hA hs
        · rcases HG.out with k | k
          · exact hA k
          · have := HH.out.lt _ hF3
            omega
        · exact own_ne_map ho3 HM.out rfl
      · rcases HG.out with k | k
        · exact .inl (HNEW.out _ k)
        · exact .inr ⟨k, hlt6⟩
      · rw [← e]
        exact (HDO.out.fr ((Fr.refl N0 w5).drew) fun _ _ => id).fr F6.out fun j hj (hb : j = b) => by cases hj; exact hgb hb.symm
      · rw [← e]
        have := HDO.out.1
        rw [flat_length] at this
        simp only
        omega
      · rw [← e]
        intro e0
        have := HDO.out.1
        rw [e0, flat_length] at this
        simp at this
        try omega
  · go_wp2_with (at_builtin; refine wpList_append1 w3 rfl (.tmp 23) (.tmp 25) 42 rfl 34 i0 _ 7 56 Tryz.underlying42 hi hz0 hz1 hz2 rfl (by omega) none 0 0 _ rfl HO.out (Pa.cs ⟨q, z, ⟨s', h', l'⟩, o, a⟩) rfl rfl ?_ ?_ ?_ ?_)
    · intro u hu; simp [Pa.cs] at hu; rcases hu with rfl | rfl | rfl | rfl | rfl | rfl | rfl <;> rfl
    all_goals try omega
    · intro g' c' w4 ho f7 hg'
      have f7 : Fr (fun i => (none : Option Addr) = some (⟨i, 0, none⟩ : Addr)) w3 w4 := by first | exact f7 | exact f7.mono fun _ _ h => h.elim
      have hg' : (none : Option Addr) = some ⟨g', 0, none⟩ ∨ w3.heap.size ≤ g' := by first | exact hg' | exact .inr hg'
      have e1 : flat (pathsT L ⟨⟨s, h1, l⟩, m⟩) ++ Pa.cs ⟨q, z, ⟨s', h', l'⟩, o, a⟩ = flat (pathsT L ⟨⟨s, h1, l⟩, m⟩ ++ [⟨q, z, ⟨s', h', l'⟩, o, a⟩]) := by rw [flat_append, flat_one]; rfl
      rw [e1] at ho
      have HO4 := Lib.hid ho
      have F4 := Lib.hid ((F3.out.mono (S' := fun i => (none : Option Addr) = some (⟨i, 0, none⟩ : Addr)) fun _ _ h => h.elim).trans f7)
      have Z4 := Lib.hid ((Z3.out.mono (S' := fun i => (none : Option Addr) = some (⟨i, 0, none⟩ : Addr)) fun _ _ h => h.elim).trans f7)
      have HG := Lib.hid (show (none : Option Addr) = some ⟨g', 0, none⟩ ∨ w.heap.size ≤ g' from hg'.imp_right fun k => Nat.le_trans F3.out.size k)
      have HG1Z := Lib.hid (show (none : Option Addr) = some ⟨g', 0, none⟩ ∨ w1.heap.size ≤ g' from hg'.imp_right fun k => Nat.le_trans Z3.out.size k)
      clear ho f7 hg' y0 y1 y2 y3 y4 y5 y6 cr hltr hlm hi hz0 hz1 hz2 F3 Z3 HO t0
      go_wp2_with fail
      have hAF := HAF.out
      have hrw := HH.out.lt r HH.out.at_
      have hbw := HH.out.lt b HFB.out
      have hdw := HH.out.dst.lt
      have hgr : r ≠ g' := HG.out.elim (fun k => (hAF g' k).2.1) fun k => by omega
      have hgb : b ≠ g' := HG.out.elim (fun k => (hAF g' k).2.2) fun k => by omega
      have hgd : g' ≠ 0 := fun e => HG.out.elim (fun k => HH.out.nd (e ▸ (hAF g' k).1)) fun k => by omega
      refine (srt_ g' (0 + 1) c' (pathsT L ⟨⟨s, h1, l⟩, m⟩ ++ [⟨q, z, ⟨s', h', l'⟩, o, a⟩]) (fun z hz => (List.mem_append.1 hz).elim (HOKL.out z) fun e => List.mem_singleton.1 e ▸ HOX.out) (HH.out.dst.fr F4.out fun e => HH.out.nd (hAF _ e).1) (by rw [List.length_append, HK.out.len]; rfl) (by omega) HO4.out hgd).mono ?_
      rintro e w5 ⟨rfl, d, hdp, hdu, hdo, hf5⟩
      have hpo := put_new HH.out.row HPO.out.ad HOX.out HMAY.out HW.out HROOM.out hdp hdu
      have F5 := Lib.hid ((F4.out.mono (S' := fun i => (none : Option Addr) = some (⟨i, 0, none⟩ : Addr) ∨ i = g') fun _ _ h => .inl h).trans (hf5.mono fun _ _ h => .inr h))
      have Z5 := Lib.hid ((Z4.out.mono (S' := fun i => (none : Option Addr) = some (⟨i, 0, none⟩ : Addr) ∨ i = g') fun _ _ h => .inl h).trans (hf5.mono fun _ _ h => .inr h))
      have HPOL := Lib.hid hpo
      have HDO := Lib.hid hdo
      clear hpo hdp hdu hdo hf5 F4 Z4 HO4 hAF
      have hg1 : ¬ ((none : Option Addr) = some ⟨g1, 0, none⟩ ∨ g1 = g') := by
        have h1 := HG1.out
        have h2 := HA1.out.lt
        rintro (k | k)
        · have := HH.out.lt _ (HAF.out _ k).1
          omega
        · subst k
          rcases HG1Z.out with k | k
          · have := HH.out.lt _ (HAF.out _ k).1
            omega
          · omega
      obtain ⟨x0, x1, x2, x3⟩ := (HA1.out.fr Z5.out hg1).c4
      have hnr : ¬ ((none : Option Addr) = some ⟨r, 0, none⟩ ∨ r = g') := fun k => k.elim (fun k => (HAF.out _ k).2.1 rfl) hgr
      have hnb : ¬ ((none : Option Addr) = some ⟨b, 0, none⟩ ∨ b = g') := fun k => k.elim (fun k => (HAF.out _ k).2.2 rfl) hgb
      have cr := (HBR.out.fr F5.out hnr).c1'
      have hltr : r < w5.heap.size := (HBR.out.fr F5.out hnr).lt
      have M5 := (HM.out.fr F5.out hnb).drewN 1
      have hup := HUP.out (w5.drewN 1) (some ⟨g', 0, none⟩, 0 + 1, c') M5
      obtain ⟨w6, M', hrun, hM6, f6, hin, hself, hoth⟩ := hup
      have hrun' : (Instr.mapUpdate 59 (.map (some b)) (.agg #[.bool s, .int .u64 (h1 : Int), .int .u64 (l : Int), .int .i64 m]) (.slice (some ⟨g', 0, none⟩) (0 + 1) c')).run Tryz.prog w5.drew = .ok () w6 := hrun
      have HM6 := Lib.hid hM6
      have F6 := Lib.hid (show Fr (fun j => j = b) w5.drew w6 from f6)
      have HIN := Lib.hid hin
      have HSELF := Lib.hid hself
      have HOT2 := Lib.hid hoth
      clear hrun hM6 f6 M5 hin hself hoth
      go_wp2_with fail
      go_region
      go_wp2_with fail
      go_ret
      refine ⟨by rw [HPOL.out.2]; rfl, ?_⟩
      have hf : Fr (fun j => ((none : Option Addr) = some ⟨j, 0, none⟩ ∨ j = g') ∨ j = b) w w6 := ((F5.out.mono fun _ _ h => .inl h).drew).trans (F6.out.mono fun _ _ h => .inr h)
      have e := HPOL.out.1
      have hrow := HH.out.row.put HPO.out.ad HOX.out (p := ⟨⟨s, h1, l⟩, m⟩)
      have hlt6 : g' < w6.heap.size := Nat.lt_of_lt_of_le (HDO.out.lt rfl) (Nat.le_trans (Fr.refl N0 w5).drew.size F6.out.size)
      refine HH.out.step HBR.out HR.out HFB.out hf ?_ ?_ HM6.out hrow (p := ⟨⟨s, h1, l⟩, m⟩) (s' := (some ⟨g', 0, none⟩, 0 + 1, c')) (g' := g') ?_ (fun q hq => put_ne _ hq) HIN.out HSELF.out HOT2.out rfl ?_ ?_ ?_ ?_
      · rintro j ((k | rfl) | rfl)
        · exact .inl (HAF.out j k).1
        · exact HG.out.imp_left fun k => (HAF.out _ k).1
        · exact .inl HFB.out
      · rintro (k | rfl)
        · exact hnr k
        · obtain ⟨es, clock, hh, _⟩ := HM.out
          have hb := HBR.out
          unfold Blk at hb
          rw [hh] at hb
          cases hb
      · rintro q t g3 hq hm ht hs
        obtain ⟨g4, e3, hF3, ho3, _⟩ := HR.out.ent q t hm
        rw [ht] at e3 ho3
        cases e3
        have hA := HOTH.out q t g3 hq hm ht
        rcases hs with (hs | rfl) | rfl
        · exact hA hs
        · rcases HG.out with k | k
          · exact hA k
          · have := HH.out.lt _ hF3
            omega
        · exact own_ne_map ho3 HM.out rfl
      · rcases HG.out with k | k
        · exact .inl (HNEW.out _ k)
        · exact .inr ⟨k, hlt6⟩
      · rw [← e]
        exact (HDO.out.fr ((Fr.refl N0 w5).drew) fun _ _ => id).fr F6.out fun j hj (hb : j = b) => by cases hj; exact hgb hb.symm
      · rw [← e]
        have := HDO.out.1
        rw [flat_length] at this
        simp only
        omega
      · rw [← e]
        intro e0
        have := HDO.out.1
        rw [e0, flat_length] at this
        simp at this
        try omega
end
end Go.Proofs.YtnklbeigikcfkaaGreatDoor
namespace Go.Proofs.YtnklbeigikcfkaaGreatDoor
open Go.Proofs Go.RowKit
theorem put_ {w : World} (r : Nat) (Ft : Nat → Prop) (L : List Td) (p : Px) (x : Pa) (h : RibIs w r Ft L) (hp : p.ok) (hx : x.ok) :
    Calls Tryz.prog 17 #[.pointer (some ⟨r, 0, none⟩), pxV p, paV x] w fun e w' => e = .returned (.int .i64 (putT clsA L p x).2) ∧ RibTo w r Ft (putT clsA L p x).1 w' := by
  cases hm : mayA p x with
  | false =>
    rw [put_bad hm]
    exact (put_no r p x hp hx hm).mono fun e w' ⟨he, hf⟩ => ⟨he, h.to hf⟩
  | true =>
    cases hw : (pathsT L p).any (sameW x) with
    | true => exact put_in r Ft L p x h hp hx hm hw
    | false =>
      by_cases hfull : 4 ≤ (pathsT L p).length ∨ (pathsT L p = [] ∧ 90 ≤ (prefsT L).length)
      · rw [put_full hm hw hfull]
        exact (put_fl r Ft L p x h hp hx hm hw hfull).mono fun e w' ⟨he, hf⟩ => ⟨he, h.to hf⟩
      · exact put_nw r Ft L p x h hp hx hm hw hfull
end Go.Proofs.YtnklbeigikcfkaaGreatDoor
