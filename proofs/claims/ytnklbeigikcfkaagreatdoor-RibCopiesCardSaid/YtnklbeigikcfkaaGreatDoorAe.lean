/- The chapter's examples hold. -/
import Derived.Test.YtnklbeigikcfkaaGreatDoorGg
import Derived.Deep.RegionWith
import Derived.Deep.DeepCutAuto
import Derived.Deep.CutBlock
namespace Go.Proofs.YtnklbeigikcfkaaGreatDoor
open Go.Proofs Go.RowKit
theorem own_blk {W : World} {g : Nat} {cs : Array Value} {l : List Pa} (h : Blk W g 34 cs) (he : cs.toList = flat l) (hl : l.length ≤ 1000000) : Own W 34 7 (some ⟨g, 0, none⟩) l.length l.length (flat l) := by
  have hs : cs.size = l.length * 7 := by rw [← Array.length_toList, he, flat_length]
  refine ⟨flat_length l, .inr ⟨g, cs, rfl, h, Nat.le_refl _, Nat.le_trans hl (by decide), hs, ?_⟩⟩
  · rw [he, List.take_of_length_le (Nat.le_of_eq (flat_length l))]
/-- The rib and the two boxes of the examples. -/
structure Aw (w W : World) (r : Nat) (N : Nat → Prop) (gx gy : Nat) (L : List Td) : Prop where
  rb : RB w W r N L
  nx : N gx
  ny : N gy
  x : Blk W gx 34 #[.int .i64 3, .int .i64 5, .bool false, .int .u64 0, .int .u64 168361985, .int .i64 0, .bool false]
  y : Blk W gy 34 #[.int .i64 1, .int .i64 7, .bool false, .int .u64 0, .int .u64 168361986, .int .i64 0, .bool false]
theorem Aw.n0 {w W W' : World} {r gx gy : Nat} {N : Nat → Prop} {L : List Td} (h : Aw w W r N gx gy L) (hf : Fr N0 W W') : Aw w W' r N gx gy L := ⟨h.rb.n0 hf, h.nx, h.ny, h.x.fr hf id, h.y.fr hf id⟩
theorem Aw.to {w W W' : World} {r gx gy : Nat} {N : Nat → Prop} {L L' : List Td} (h : Aw w W r N gx gy L) (ht : RBTo w W r N L' W') : Aw w W' r N gx gy L' :=
  ⟨ht.1, h.nx, h.ny, h.x.fr ht.2 fun k => k.2 h.nx, h.y.fr ht.2 fun k => k.2 h.ny⟩
set_option maxHeartbeats 12800000 in
set_option maxRecDepth 100000 in
theorem awake15 {w : World} (hd : Dst w) : Calls Tryz.prog 5 #[] w fun e w' => e = .returned (.bool true) ∧ Fr N0 w w' := by
  have kten := fun (W : World) => ten_ (w := W)
  have kby := fun (W : World) (n : Nat) (hn : n < 1000) => by_ (w := W) n hn
  unfold pxV tenP at kten
  unfold adV byA at kby
  simp only at kten kby
  have okA : xA.ok := ⟨⟨by decide, by decide⟩, ⟨by decide, by decide⟩, okBy (by decide), ⟨by decide, by decide⟩⟩
  have okB : xB.ok := ⟨⟨by decide, by decide⟩, ⟨by decide, by decide⟩, okBy (by decide), ⟨by decide, by decide⟩⟩
  have okY : yA.ok := ⟨⟨by decide, by decide⟩, ⟨by decide, by decide⟩, okBy (by decide), ⟨by decide, by decide⟩⟩
  have okN : xN.ok := ⟨⟨by decide, by decide⟩, ⟨by decide, by decide⟩, okBy (by decide), ⟨by decide, by decide⟩⟩
  have okZ : zeroPa.ok := ⟨⟨by decide, by decide⟩, ⟨by decide, by decide⟩, ⟨by decide, by decide⟩, ⟨by decide, by decide⟩⟩
  have HOKS := Lib.hid (And.intro okA (And.intro okB (And.intro okY (And.intro okN okZ))))
  have kby1 := fun (W : World) => kby W 1 (by omega)
  have kby2 := fun (W : World) => kby W 2 (by omega)
  have kby9 := fun (W : World) => kby W 9 (by omega)
  simp at kten kby1 kby2 kby9
  clear kby okA okB okY okN okZ
  have KT := Lib.hid kten
  have K1 := Lib.hid kby1
  have K2 := Lib.hid kby2
  have K9 := Lib.hid kby9
  clear kten kby1 kby2 kby9
  have knew := rb_new hd
  go_enter Tryz.func5, Tryz.ntmps5
  go_wp2_with fail
  refine knew.mono ?_
  rintro e w1 ⟨r, rfl, hrw, h1⟩
  have H1 := Lib.hid h1
  clear knew h1
  go_wp2_with fail
  refine (K1.out _).mono ?_
  rintro e w2 ⟨rfl, hf⟩
  have H2 := Lib.hid (H1.out.n0 hf)
  clear hf
  have HX := Lib.hid (Blk.new w2 34 #[.int .i64 3, .int .i64 5, .bool false, .int .u64 0, .int .u64 168361985, .int .i64 0, .bool false])
  have hF := (Fr.refl N0 w2).alloc (.cells #[.int .i64 3, .int .i64 5, .bool false, .int .u64 0, .int .u64 168361985, .int .i64 0, .bool false] 34)
  have hsz : (w2.alloc (.cells #[.int .i64 3, .int .i64 5, .bool false, .int .u64 0, .int .u64 168361985, .int .i64 0, .bool false] 34)).heap.size = w2.heap.size + 1 := by simp
  go_wp2_with fail
  generalize w2.alloc (.cells #[.int .i64 3, .int .i64 5, .bool false, .int .u64 0, .int .u64 168361985, .int .i64 0, .bool false] 34) = w3 at *
  obtain ⟨gx, hgx⟩ : ∃ g, g = w2.heap.size := ⟨_, rfl⟩
  rw [← hgx] at HX ⊢
  have H3 := Lib.hid (H2.out.more (M := fun i => i = gx) hF fun i hi => .inr (by omega))
  clear hF hsz hgx
  refine (K2.out _).mono ?_
  rintro e w4 ⟨rfl, hf⟩
  have H4 := Lib.hid (H3.out.n0 hf)
  have HX4 := Lib.hid (HX.out.fr hf id)
  clear hf
  have HY := Lib.hid (Blk.new w4 34 #[.int .i64 1, .int .i64 7, .bool false, .int .u64 0, .int .u64 168361986, .int .i64 0, .bool false])
  have hF := (Fr.refl N0 w4).alloc (.cells #[.int .i64 1, .int .i64 7, .bool false, .int .u64 0, .int .u64 168361986, .int .i64 0, .bool false] 34)
  have hsz : (w4.alloc (.cells #[.int .i64 1, .int .i64 7, .bool false, .int .u64 0, .int .u64 168361986, .int .i64 0, .bool false] 34)).heap.size = w4.heap.size + 1 := by simp
  go_wp2_with fail
  generalize w4.alloc (.cells #[.int .i64 1, .int .i64 7, .bool false, .int .u64 0, .int .u64 168361986, .int .i64 0, .bool false] 34) = w5 at *
  obtain ⟨gy, hgy⟩ : ∃ g, g = w4.heap.size := ⟨_, rfl⟩
  rw [← hgy] at HY ⊢
  obtain ⟨N, hN⟩ : ∃ N : Nat → Prop, N = fun i => i = gx ∨ i = gy := ⟨_, rfl⟩
  have A5 := Lib.hid (show Aw w w5 r N gx gy [] from ⟨H4.out.more hF (fun i hi => by subst hN; exact hi.elim .inl fun h => .inr (by omega)), by subst hN; exact .inl rfl, by subst hN; exact .inr rfl, HX4.out.fr hF id, HY.out⟩)
  clear hN
  clear hF hsz hgy
  clear H1 H2 H3 H4 HX HX4 HY hrw
  go_cut [4] (fun v wx => v = .int .i64 0 ∧ Aw w wx r N gx gy [(tenP, xA)])
  case first =>
    obtain ⟨x0, x1, x2, x3, x4, x5, x6⟩ := A5.out.x.c7
    go_region_with (first
      | (go_at_call 18; (with_reducible refine (KT.out _).mono ?_); rintro e w6 ⟨rfl, hf⟩; have A6 := Lib.hid ((A5.out.n0 (Fr.refl N0 _).drew).n0 hf); clear hf x0 x1 x2 x3 x4 x5 x6; obtain ⟨x0, x1, x2, x3, x4, x5, x6⟩ := A6.out.x.c7)
      | (go_at_call 17; have kp := A6.out.rb.put tenP xA okTen HOKS.out.1; rw [aw1] at kp; refine kp.mono ?_; rintro e w7 ⟨rfl, ht⟩; have A7 := Lib.hid (A6.out.to ht); clear ht kp))
    all_goals
      go_wp2_with fail
      go_meet
      exact ⟨rfl, A7.out⟩
  case rest =>
    obtain ⟨rfl, h7⟩ := hcut
    have A7 := Lib.hid h7
    clear h7 A5
    go_wp2_with fail
    refine (KT.out _).mono ?_
    rintro e w8 ⟨rfl, hf⟩
    have A8 := Lib.hid (A7.out.n0 hf)
    clear hf A7
    go_wp2_with fail
    refine (K2.out _).mono ?_
    rintro e w9 ⟨rfl, hf⟩
    have A9 := Lib.hid (A8.out.n0 hf)
    clear hf A8
    go_wp2_with fail
    have kp := A9.out.rb.put tenP xB okTen HOKS.out.2.1
    rw [aw2] at kp
    refine kp.mono ?_
    rintro e w10 ⟨rfl, ht⟩
    have A10 := Lib.hid (A9.out.to ht)
    clear kp ht A9
    go_wp2_with fail
    go_cut [6] (fun v wx => v = .int .i64 0 ∧ Aw w wx r N gx gy [(tenP, yA), (tenP, xA)])
    case first =>
      obtain ⟨y0, y1, y2, y3, y4, y5, y6⟩ := A10.out.y.c7
      go_region_with (first
        | (go_at_call 18; (with_reducible refine (KT.out _).mono ?_); rintro e w6 ⟨rfl, hf⟩; have A6 := Lib.hid ((A10.out.n0 (Fr.refl N0 _).drew).n0 hf); clear hf y0 y1 y2 y3 y4 y5 y6; obtain ⟨y0, y1, y2, y3, y4, y5, y6⟩ := A6.out.y.c7)
        | (go_at_call 17; have kp := A6.out.rb.put tenP yA okTen HOKS.out.2.2.1; rw [aw3] at kp; refine kp.mono ?_; rintro e w12 ⟨rfl, ht⟩; have A12 := Lib.hid (A6.out.to ht); clear ht kp))
      all_goals
        go_wp2_with fail
        go_meet
        exact ⟨rfl, A12.out⟩
    case rest =>
      obtain ⟨rfl, h12⟩ := hcut
      have A12 := Lib.hid h12
      clear h12 A10
      go_wp2_with fail
      refine (KT.out _).mono ?_
      rintro e w13 ⟨rfl, hf⟩
      have A13 := Lib.hid (A12.out.n0 hf)
      clear hf A12
      go_wp2_with fail
      have kp := A13.out.rb.put tenP zeroPa okTen HOKS.out.2.2.2.2
      rw [aw4] at kp
      refine kp.mono ?_
      rintro e w14 ⟨rfl, ht⟩
      have A14 := Lib.hid (A13.out.to ht)
      clear kp ht A13
      go_wp2_with fail
      refine (KT.out _).mono ?_
      rintro e w15 ⟨rfl, hf⟩
      have A15 := Lib.hid (A14.out.n0 hf)
      clear hf A14
      go_wp2_with fail
      have kp : Calls Tryz.prog 19 #[.pointer (some ⟨r, 0, none⟩), .agg #[.bool false, .int .u64 0, .int .u64 167772160, .int .i64 8]] w15 fun e w' => e = .returned (.tuple #[.agg #[.int .i64 1, .int .i64 7, .bool false, .int .u64 0, .int .u64 168361986, .int .i64 0, .bool false], .bool true]) ∧ Fr N0 w15 w' := by
        have := A15.out.rb.best tenP okTen
        rw [aw5] at this
        exact this
      refine kp.mono ?_
      rintro e w16 ⟨rfl, hf⟩
      have A16 := Lib.hid (A15.out.n0 hf)
      clear hf A15 kp
      have HZ := Lib.hid (Blk.new w16 34 #[.int .i64 1, .int .i64 7, .bool false, .int .u64 0, .int .u64 168361986, .int .i64 0, .bool false])
      have hF := (Fr.refl N0 w16).alloc (.cells #[.int .i64 1, .int .i64 7, .bool false, .int .u64 0, .int .u64 168361986, .int .i64 0, .bool false] 34)
      have hsz : (w16.alloc (.cells #[.int .i64 1, .int .i64 7, .bool false, .int .u64 0, .int .u64 168361986, .int .i64 0, .bool false] 34)).heap.size = w16.heap.size + 1 := by simp
      go_wp2_with fail
      generalize w16.alloc (.cells #[.int .i64 1, .int .i64 7, .bool false, .int .u64 0, .int .u64 168361986, .int .i64 0, .bool false] 34) = w17 at *
      obtain ⟨gz, hgz⟩ : ∃ g, g = w16.heap.size := ⟨_, rfl⟩
      rw [← hgz] at HZ ⊢
      obtain ⟨M, hM⟩ : ∃ M : Nat → Prop, M = fun i => N i ∨ i = gz := ⟨_, rfl⟩
      have A17 := Lib.hid (show Aw w w17 r M gx gy [(tenP, yA), (tenP, xA)] from ⟨A16.out.rb.more hF (fun i hi => by subst hM; exact hi.elim .inl fun h => .inr (by omega)), by subst hM; exact .inl A16.out.nx, by subst hM; exact .inl A16.out.ny, A16.out.x.fr hF id, A16.out.y.fr hF id⟩)
      have HMZ := Lib.hid (show M gz by subst hM; exact .inr rfl)
      clear hF A16 hsz hgz hM
      refine A17.out.rb.count.mono ?_
      rintro e w18 ⟨rfl, hf⟩
      have A18 := Lib.hid (A17.out.n0 hf)
      have HZ18 := Lib.hid (HZ.out.fr hf id)
      clear hf A17 HZ
      go_wp2_with fail
      refine (KT.out _).mono ?_
      rintro e w19 ⟨rfl, hf⟩
      have A19 := Lib.hid (A18.out.n0 hf)
      have HZ19 := Lib.hid (HZ18.out.fr hf id)
      clear hf A18 HZ18
      go_wp2_with fail
      refine (K9.out _).mono ?_
      rintro e w20 ⟨rfl, hf⟩
      have A20 := Lib.hid (A19.out.n0 hf)
      have HZ20 := Lib.hid (HZ19.out.fr hf id)
      clear hf A19 HZ19
      go_wp2_with fail
      have kp := A20.out.rb.drop tenP xN okTen
      rw [aw6] at kp
      refine kp.mono ?_
      rintro e w21 ⟨rfl, ht⟩
      have HZ21 := Lib.hid (HZ20.out.fr ht.2 fun hz => hz.2 HMZ.out)
      have A21 := Lib.hid (A20.out.to ht)
      clear kp ht A20 HZ20
      go_wp2_with fail
      have kp := A21.out.rb.flush 1
      rw [aw7] at kp
      refine kp.mono ?_
      rintro e w22 ⟨rfl, ht⟩
      have HZ22 := Lib.hid (HZ21.out.fr ht.2 fun hz => hz.2 HMZ.out)
      have A22 := Lib.hid (A21.out.to ht)
      clear kp ht A21 HZ21
      go_wp2_with fail
      refine (KT.out _).mono ?_
      rintro e w23 ⟨rfl, hf⟩
      have A23 := Lib.hid (A22.out.n0 hf)
      have HZ23 := Lib.hid (HZ22.out.fr hf id)
      clear hf A22 HZ22
      go_wp2_with fail
      have kp := A23.out.rb.paths tenP okTen
      rw [aw8] at kp
      refine kp.mono ?_
      rintro e w24 ⟨v, rfl, A, c, rfl, ho, hf, hn⟩
      have A24 := Lib.hid (A23.out.n0 hf)
      have HZ24 := Lib.hid (HZ23.out.fr hf id)
      have HO24 := Lib.hid ho
      have E : ∀ W, Sem.run Tryz.prog (binOp .eql 34 (.agg #[.int .i64 1, .int .i64 7, .bool false, .int .u64 0, .int .u64 168361986, .int .i64 0, .bool false]) (.agg #[.int .i64 1, .int .i64 7, .bool false, .int .u64 0, .int .u64 168361986, .int .i64 0, .bool false])) W = .ok (.bool true) W := fun W => eql_pa yA yA W
      have EG : ∀ X Y W, Sem.run Tryz.prog (eqGuard .eql 34 X Y (.agg #[.int .i64 1, .int .i64 7, .bool false, .int .u64 0, .int .u64 168361986, .int .i64 0, .bool false]) (.agg #[.int .i64 1, .int .i64 7, .bool false, .int .u64 0, .int .u64 168361986, .int .i64 0, .bool false])) W = .ok () W := fun X Y W => guard_pa .eql X Y yA yA W
      obtain ⟨x0, x1, x2, x3, x4, x5, x6⟩ := A24.out.x.c7
      obtain ⟨y0, y1, y2, y3, y4, y5, y6⟩ := A24.out.y.c7
      obtain ⟨z0, z1, z2, z3, z4, z5, z6⟩ := HZ24.out.c7
      clear hf A23 HZ23 kp ho hn
      go_wp2_with fail
      have HF25 := Lib.hid ((Fr.refl N0 w24).alloc (.cells #[.int .i64 3, .int .i64 5, .bool false, .int .u64 0, .int .u64 168361985, .int .i64 0, .bool false] 34))
      have A25 := Lib.hid (A24.out.n0 HF25.out)
      have ks := same_pa A (some ⟨w24.heap.size, 0, none⟩) 1 c 1 1 [xA] [xA] (HO24.out.fr HF25.out fun _ _ => id) rfl (own_blk (l := [xA]) (Blk.new w24 34 #[.int .i64 3, .int .i64 5, .bool false, .int .u64 0, .int .u64 168361985, .int .i64 0, .bool false]) rfl (by decide)) rfl (by omega)
      rw [decide_eq_true rfl] at ks
      clear x0 x1 x2 x3 x4 x5 x6 y0 y1 y2 y3 y4 y5 y6 z0 z1 z2 z3 z4 z5 z6 E EG
      refine ks.mono ?_
      rintro e w26 ⟨rfl, hf⟩
      have A26 := Lib.hid (A25.out.n0 hf)
      clear hf A25 ks
      go_wp2_with fail
      have kp := A26.out.rb.prefs
      rw [aw9] at kp
      refine kp.mono ?_
      rintro e w27 ⟨v, rfl, A7, c7, rfl, ho, hf, hn⟩
      have A27 := Lib.hid (A26.out.n0 hf)
      clear hf ho hn kp A26
      obtain ⟨x0, x1, x2, x3, x4, x5, x6⟩ := A27.out.x.c7
      obtain ⟨y0, y1, y2, y3, y4, y5, y6⟩ := A27.out.y.c7
      go_wp2_with fail
      have kp := A27.out.rb.bet yA xA HOKS.out.2.2.1 HOKS.out.1
      rw [aw10] at kp
      refine kp.mono ?_
      rintro e w28 ⟨rfl, hf⟩
      have A28 := Lib.hid (A27.out.n0 hf)
      clear hf kp A27 x0 x1 x2 x3 x4 x5 x6 y0 y1 y2 y3 y4 y5 y6
      go_wp2_with fail
      refine (K1.out _).mono ?_
      rintro e w29 ⟨rfl, hf⟩
      have A29 := Lib.hid (A28.out.n0 hf)
      clear hf A28
      go_wp2_with fail
      have kp := A29.out.rb.over (byA 1) (okBy (by decide))
      rw [aw11] at kp
      refine kp.mono ?_
      rintro e w30 ⟨v, rfl, A8, c8, rfl, ho, hf, hn⟩
      have A30 := Lib.hid (A29.out.n0 hf)
      clear hf ho hn kp A29
      go_wp2_with fail
      go_ret
      exact ⟨rfl, A30.out.rb.fr⟩
end Go.Proofs.YtnklbeigikcfkaaGreatDoor
