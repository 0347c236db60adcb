/- A step done; a rib made by steps. A step of the rib, of the document's. Both tell the same. -/
import Derived.Test.YtnklbeigikcfkaaGreatDoorGg
import Derived.Test.YtnklbeigikcfkaaGreatDoorGl
import Derived.Deep.RegionWith
import Derived.Deep.RegionHeld3
namespace Go.Proofs.YtnklbeigikcfkaaGreatDoor
open Go.Proofs Go.RowKit
def stV (s : St) : Value := .agg #[.int .i64 s.what, .bool s.p.ad.six, .int .u64 (s.p.ad.hi : Int), .int .u64 (s.p.ad.lo : Int), .int .i64 s.p.bits, .int .i64 s.x.proto, .int .i64 s.x.metric, .bool s.x.via.six, .int .u64 (s.x.via.hi : Int), .int .u64 (s.x.via.lo : Int), .int .i64 s.x.port, .bool s.x.away]
def doT (L : List Td) (s : St) : List Td × Int × Int :=
  if s.what % 8 = 3 then ((dropT L s.p s.x).1, 0, (dropT L s.p s.x).2)
  else if s.what % 8 = 4 then (flushT L s.x.proto, (L.length : Int) - ((flushT L s.x.proto).length : Int), 0)
  else ((putT clsA L s.p s.x).1, 0, (putT clsA L s.p s.x).2)
section
variable {w wr : World} {r : Nat} {N : Nat → Prop} {L : List Td}
set_option maxHeartbeats 6400000 in
set_option maxRecDepth 100000 in
theorem RB.step_ (h : RB w wr r N L) (s : St) (hs : s.ok) :
    Calls Tryz.prog 8 #[.pointer (some ⟨r, 0, none⟩), stV s] wr fun e w' => e = .returned (.tuple #[.int .i64 (doT L s).2.1, .int .i64 (doT L s).2.2]) ∧ RBTo w wr r N (doT L s).1 w' := by
  obtain ⟨hs1, hs2, hs3⟩ := hs
  obtain ⟨q, p, x⟩ := s
  simp only at hs1 hs2 hs3
  have hand := i64_and7 q
  have kd := fun (W : World) (h' : RB w W r N L) => h'.drop p x hs2
  have kf := fun (W : World) (h' : RB w W r N L) => h'.flush x.proto
  have kp := fun (W : World) (h' : RB w W r N L) => h'.put p x hs2 hs3
  have HD := Lib.hid (show doT L ⟨q, p, x⟩ = if q % 8 = 3 then ((dropT L p x).1, 0, (dropT L p x).2) else if q % 8 = 4 then (flushT L x.proto, (L.length : Int) - ((flushT L x.proto).length : Int), 0) else ((putT clsA L p x).1, 0, (putT clsA L p x).2) from rfl)
  obtain ⟨D, hD⟩ : ∃ D, D = doT L ⟨q, p, x⟩ := ⟨_, rfl⟩
  rw [← hD] at HD ⊢
  clear hD hs1 hs2 hs3
  unfold stV
  simp only
  obtain ⟨⟨s1, h1, l1⟩, m1⟩ := p
  obtain ⟨p2, m2, ⟨s2, h2, l2⟩, o2, a2⟩ := x
  unfold pxV paV at *
  simp only at *
  have HF := Lib.hid ((Fr.refl N0 wr).alloc (.cells #[.int .i64 q, .bool s1, .int .u64 (h1 : Int), .int .u64 (l1 : Int), .int .i64 m1, .int .i64 p2, .int .i64 m2, .bool s2, .int .u64 (h2 : Int), .int .u64 (l2 : Int), .int .i64 o2, .bool a2] 36))
  have H2 := Lib.hid (h.n0 HF.out)
  have hB := Blk.new wr 36 #[.int .i64 q, .bool s1, .int .u64 (h1 : Int), .int .u64 (l1 : Int), .int .i64 m1, .int .i64 p2, .int .i64 m2, .bool s2, .int .u64 (h2 : Int), .int .u64 (l2 : Int), .int .i64 o2, .bool a2]
  have z0 := hB.cell 0
  have z1 := hB.cell 1
  have z2 := hB.cell 2
  have z3 := hB.cell 3
  have z4 := hB.cell 4
  have z5 := hB.cell 5
  have z6 := hB.cell 6
  have z7 := hB.cell 7
  have z8 := hB.cell 8
  have z9 := hB.cell 9
  have z10 := hB.cell 10
  have z11 := hB.cell 11
  simp only [List.getElem?_toArray, List.getElem?_cons_zero, List.getElem?_cons_succ] at z0 z1 z2 z3 z4 z5 z6 z7 z8 z9 z10 z11
  clear hB h
  generalize q % 8 = u at *
  have hto : ∀ (L' : List Td) (w' : World), RBTo w (wr.alloc (.cells #[.int .i64 q, .bool s1, .int .u64 (h1 : Int), .int .u64 (l1 : Int), .int .i64 m1, .int .i64 p2, .int .i64 m2, .bool s2, .int .u64 (h2 : Int), .int .u64 (l2 : Int), .int .i64 o2, .bool a2] 36)) r N L' w' → RBTo w wr r N L' w' := fun _ _ h => ⟨h.1, (HF.out.mono fun _ _ k => k.elim).trans h.2⟩
  have HTO := Lib.hid hto
  clear hto
  by_cases e3 : u = 3
  · subst e3
    have HR := Lib.hid (HD.out.trans (if_pos rfl))
    clear HD
    have k := kd _ H2.out
    clear kd kf kp
    go_enter Tryz.func8, Tryz.ntmps8
    go_wp2_with fail
    refine k.mono ?_
    rintro e w3 ⟨rfl, ht⟩
    go_wp2_with fail
    go_ret2
    rw [HR.out]
    exact ⟨rfl, HTO.out _ _ ht⟩
  · have t3 : (u == 3) = false := by rw [beq_eq_false_iff_ne]; exact e3
    by_cases e4 : u = 4
    · subst e4
      have HR := Lib.hid (HD.out.trans ((if_neg e3).trans (if_pos rfl)))
      clear HD
      have k := kf _ H2.out
      clear kd kf kp
      go_enter Tryz.func8, Tryz.ntmps8
      go_wp2_with fail
      refine k.mono ?_
      rintro e w3 ⟨rfl, ht⟩
      go_wp2_with fail
      go_ret2
      rw [HR.out]
      exact ⟨rfl, HTO.out _ _ ht⟩
    · have t4 : (u == 4) = false := by rw [beq_eq_false_iff_ne]; exact e4
      have HR := Lib.hid (HD.out.trans ((if_neg e3).trans (if_neg e4)))
      clear HD
      have k := kp _ H2.out
      clear kd kf kp
      go_enter Tryz.func8, Tryz.ntmps8
      go_wp2_with fail
      refine k.mono ?_
      rintro e w3 ⟨rfl, ht⟩
      go_wp2_with fail
      go_ret2
      rw [HR.out]
      exact ⟨rfl, HTO.out _ _ ht⟩
end
def madeT (l : List St) : List Td := l.foldl (fun L s => (doT L s).1) []
theorem madeT_snoc (l : List St) (s : St) : madeT (l ++ [s]) = (doT (madeT l) s).1 := by unfold madeT; rw [List.foldl_append]; rfl
theorem StIn.at {w W : World} {A : Option Addr} {l : List St} (h : StIn w A l) (hf : Fr N0 w W) {j : Nat} {s : St} (hj : l[j]? = some s) : ∃ b off, A = some ⟨b, off, none⟩ ∧ s.ok ∧ ∀ k v, (St.cs s)[k]? = some v → W.cell? ⟨b, off + (j * 12 + k), none⟩ = some v := by
  obtain ⟨b, off, hA, hb, hc⟩ := h (fun e => by rw [e] at hj; simp at hj)
  obtain ⟨hs, hcs⟩ := hc j s hj
  exact ⟨b, off, hA, hs, fun k v hk => by
    have := hcs k v hk
    rw [hf.cell (p := ⟨b, off + (j * 12 + k), none⟩) (World.block_lt_of_cell? _ _ this) id]
    exact this⟩
set_option maxHeartbeats 6400000 in
set_option maxRecDepth 100000 in
theorem made_ {w : World} (hd : Dst w) (A : Option Addr) (n c : Nat) (l : List St) (hs : StIn w A l) (hl : l.length = n) :
    Calls Tryz.prog 13 #[.slice A n c] w fun e w' => ∃ g, e = .returned (.pointer (some ⟨g, 0, none⟩)) ∧ w.heap.size ≤ g ∧ RB w w' g N0 (madeT (l.take 60)) := by
  have k1 := rb_new hd
  have HS := Lib.hid hs
  have HL := Lib.hid hl
  clear hs hl hd
  go_enter Tryz.func13, Tryz.ntmps13
  go_wp2_with fail
  refine k1.mono ?_
  rintro e w1 ⟨r, rfl, hr, h1⟩
  have H1 := Lib.hid h1
  have HRW := Lib.hid hr
  clear k1 h1 hr
  go_wp2_with fail
  go_loopw [4] (fun vi wr => ∃ j : Nat, j ≤ n ∧ j ≤ 60 ∧ vi = .int .i64 (j : Int) ∧ RB w wr r N0 (madeT (l.take j))) (fun vi _ => 61 - (intOf vi).toNat)
  case atStart => exact ⟨0, Nat.zero_le _, Nat.zero_le _, rfl, H1.out⟩
  case round =>
    obtain ⟨j, hj, hj6, rfl, hR⟩ := hrel
    have HR := Lib.hid hR
    clear hR H1
    by_cases hjn : j < n
    · have hjI : (j : Int) < (n : Int) := by omega
      by_cases hj60 : j < 60
      · have hj60I : (j : Int) < 60 := by omega
        obtain ⟨s, hsj⟩ : ∃ s, l[j]? = some s := ⟨_, List.getElem?_eq_getElem (by have := HL.out; omega)⟩
        obtain ⟨b, off, rfl, hok, hc⟩ := HS.out.at HR.out.fr hsj
        have HT := Lib.hid (show l.take (j + 1) = l.take j ++ [s] by
          obtain ⟨hj, e⟩ := List.getElem?_eq_some_iff.1 hsj
          rw [List.take_succ_eq_append_getElem hj, e])
        have k2 := HR.out.step_ s hok
        obtain ⟨q, ⟨⟨s1, h1, l1⟩, m1⟩, ⟨p2, m2, ⟨s2, h2, l2⟩, o2, a2⟩⟩ := s
        have c0 := hc 0 _ rfl
        have c1 := hc 1 _ rfl
        have c2 := hc 2 _ rfl
        have c3 := hc 3 _ rfl
        have c4 := hc 4 _ rfl
        have c5 := hc 5 _ rfl
        have c6 := hc 6 _ rfl
        have c7 := hc 7 _ rfl
        have c8 := hc 8 _ rfl
        have c9 := hc 9 _ rfl
        have c10 := hc 10 _ rfl
        have c11 := hc 11 _ rfl
        unfold stV at k2
        simp only [← Nat.add_assoc, Nat.add_zero] at k2 c0 c1 c2 c3 c4 c5 c6 c7 c8 c9 c10 c11
        clear hc hsj hok
        go_wp2_with fail
        refine k2.mono ?_
        rintro e w3 ⟨rfl, ht⟩
        have H3 := Lib.hid ht.1
        clear ht k2 c0 c1 c2 c3 c4 c5 c6 c7 c8 c9 c10 c11
        go_wp2_with fail
        go_roundw
        case rel => exact ⟨j + 1, by omega, by omega, by go_num, by rw [HT.out, madeT_snoc]; exact H3.out⟩
        case measure => simp [intOf]; omega
      · have hj60I : ¬ (j : Int) < 60 := by omega
        obtain rfl : j = 60 := by omega
        go_wp2_with fail
        go_ret
        exact ⟨r, rfl, HRW.out, HR.out⟩
    · have hjI : ¬ (j : Int) < (n : Int) := by omega
      have HT := Lib.hid (show l.take 60 = l.take j by
        rw [List.take_of_length_le (by have := HL.out; omega), List.take_of_length_le (by have := HL.out; omega)])
      go_wp2_with fail
      go_ret
      exact ⟨r, rfl, HRW.out, by rw [HT.out]; exact HR.out⟩
end Go.Proofs.YtnklbeigikcfkaaGreatDoor
namespace Go.Proofs.YtnklbeigikcfkaaGreatDoor
open Go.Proofs Go.RowKit
theorem RibTo.after {w w2 w3 : World} {r : Nat} {F : Nat → Prop} {L : List Td} (hf : Fr N0 w w2) (h : RibTo w2 r F L w3) : RibTo w r F L w3 := by
  obtain ⟨F', h1, h2, h3⟩ := h
  exact ⟨F', h1, fun i hi => (h2 i hi).imp_right fun k => Nat.le_trans hf.size k, (hf.mono fun _ _ h => h.elim).trans h3⟩
section
variable {wr : World}
set_option maxHeartbeats 6400000 in
set_option maxRecDepth 100000 in
theorem do_ (r : Nat) (Ft : Nat → Prop) (L : List Td) (h : RibIs wr r Ft L) (s : St) (hs : s.ok) :
    Calls Tryz.prog 8 #[.pointer (some ⟨r, 0, none⟩), stV s] wr fun e w' => e = .returned (.tuple #[.int .i64 (doT L s).2.1, .int .i64 (doT L s).2.2]) ∧ RibTo wr r Ft (doT L s).1 w' := by
  obtain ⟨hs1, hs2, hs3⟩ := hs
  obtain ⟨q, p, x⟩ := s
  simp only at hs1 hs2 hs3
  have hand := i64_and7 q
  have kd := fun (W : World) (h' : RibIs W r Ft L) => drp_ r Ft L p x h' hs2
  have kf := fun (W : World) (h' : RibIs W r Ft L) => fls_ r Ft L x.proto h'
  have kp := fun (W : World) (h' : RibIs W r Ft L) => put_ r Ft L p x h' hs2 hs3
  have HD := Lib.hid (show doT L ⟨q, p, x⟩ = if q % 8 = 3 then ((dropT L p x).1, 0, (dropT L p x).2) else if q % 8 = 4 then (flushT L x.proto, (L.length : Int) - ((flushT L x.proto).length : Int), 0) else ((putT clsA L p x).1, 0, (putT clsA L p x).2) from rfl)
  obtain ⟨D, hD⟩ : ∃ D, D = doT L ⟨q, p, x⟩ := ⟨_, rfl⟩
  rw [← hD] at HD ⊢
  clear hD hs1 hs2 hs3
  unfold stV
  simp only
  obtain ⟨⟨s1, h1, l1⟩, m1⟩ := p
  obtain ⟨p2, m2, ⟨s2, h2, l2⟩, o2, a2⟩ := x
  unfold pxV paV at *
  simp only at *
  have HF := Lib.hid ((Fr.refl N0 wr).alloc (.cells #[.int .i64 q, .bool s1, .int .u64 (h1 : Int), .int .u64 (l1 : Int), .int .i64 m1, .int .i64 p2, .int .i64 m2, .bool s2, .int .u64 (h2 : Int), .int .u64 (l2 : Int), .int .i64 o2, .bool a2] 36))
  have H2 := Lib.hid (h.n0 HF.out)
  have hB := Blk.new wr 36 #[.int .i64 q, .bool s1, .int .u64 (h1 : Int), .int .u64 (l1 : Int), .int .i64 m1, .int .i64 p2, .int .i64 m2, .bool s2, .int .u64 (h2 : Int), .int .u64 (l2 : Int), .int .i64 o2, .bool a2]
  have z0 := hB.cell 0
  have z1 := hB.cell 1
  have z2 := hB.cell 2
  have z3 := hB.cell 3
  have z4 := hB.cell 4
  have z5 := hB.cell 5
  have z6 := hB.cell 6
  have z7 := hB.cell 7
  have z8 := hB.cell 8
  have z9 := hB.cell 9
  have z10 := hB.cell 10
  have z11 := hB.cell 11
  simp only [List.getElem?_toArray, List.getElem?_cons_zero, List.getElem?_cons_succ] at z0 z1 z2 z3 z4 z5 z6 z7 z8 z9 z10 z11
  clear hB h
  generalize q % 8 = u at *
  have hto : ∀ (L' : List Td) (w' : World), RibTo (wr.alloc (.cells #[.int .i64 q, .bool s1, .int .u64 (h1 : Int), .int .u64 (l1 : Int), .int .i64 m1, .int .i64 p2, .int .i64 m2, .bool s2, .int .u64 (h2 : Int), .int .u64 (l2 : Int), .int .i64 o2, .bool a2] 36)) r Ft L' w' → RibTo wr r Ft L' w' := fun _ _ h => h.after HF.out
  have HTO := Lib.hid hto
  clear hto
  by_cases e3 : u = 3
  · subst e3
    have HR := Lib.hid (HD.out.trans (if_pos rfl))
    clear HD
    have k := kd _ H2.out
    clear kd kf kp
    go_enter Tryz.func8, Tryz.ntmps8
    go_wp2_with fail
    refine k.mono ?_
    rintro e w3 ⟨rfl, ht⟩
    go_wp2_with fail
    go_ret2
    rw [HR.out]
    exact ⟨rfl, HTO.out _ _ ht⟩
  · have t3 : (u == 3) = false := by rw [beq_eq_false_iff_ne]; exact e3
    by_cases e4 : u = 4
    · subst e4
      have HR := Lib.hid (HD.out.trans ((if_neg e3).trans (if_pos rfl)))
      clear HD
      have k := kf _ H2.out
      clear kd kf kp
      go_enter Tryz.func8, Tryz.ntmps8
      go_wp2_with fail
      refine k.mono ?_
      rintro e w3 ⟨rfl, ht⟩
      go_wp2_with fail
      go_ret2
      rw [HR.out]
      exact ⟨rfl, HTO.out _ _ ht⟩
    · have t4 : (u == 4) = false := by rw [beq_eq_false_iff_ne]; exact e4
      have HR := Lib.hid (HD.out.trans ((if_neg e3).trans (if_neg e4)))
      clear HD
      have k := kp _ H2.out
      clear kd kf kp
      go_enter Tryz.func8, Tryz.ntmps8
      go_wp2_with fail
      refine k.mono ?_
      rintro e w3 ⟨rfl, ht⟩
      go_wp2_with fail
      go_ret2
      rw [HR.out]
      exact ⟨rfl, HTO.out _ _ ht⟩
end
section
variable {wr : World}
set_option maxHeartbeats 6400000 in
set_option maxRecDepth 100000 in
theorem does_ (r : Nat) (Ft : Nat → Prop) (L : List Td) (h : Rf wr r Ft L) (s : St) (hs : s.ok) :
    Calls Tryz.prog 9 #[.pointer (some ⟨r, 0, none⟩), stV s] wr fun e w' => e = .returned (.tuple #[.int .i64 (doT L s).2.1, .int .i64 (doT L s).2.2]) ∧ RfTo wr r Ft (doT L s).1 w' := by
  obtain ⟨hs1, hs2, hs3⟩ := hs
  obtain ⟨q, p, x⟩ := s
  simp only at hs1 hs2 hs3
  have hand := i64_and7 q
  have kd := fun (W : World) (h' : Rf W r Ft L) => rf_drop r Ft L p x h'
  have kf := fun (W : World) (h' : Rf W r Ft L) => rf_flush r Ft L x.proto h'
  have kp := fun (W : World) (h' : Rf W r Ft L) => rf_put r Ft L p x h' hs2 hs3
  have HD := Lib.hid (show doT L ⟨q, p, x⟩ = if q % 8 = 3 then ((dropT L p x).1, 0, (dropT L p x).2) else if q % 8 = 4 then (flushT L x.proto, (L.length : Int) - ((flushT L x.proto).length : Int), 0) else ((putT clsA L p x).1, 0, (putT clsA L p x).2) from rfl)
  obtain ⟨D, hD⟩ : ∃ D, D = doT L ⟨q, p, x⟩ := ⟨_, rfl⟩
  rw [← hD] at HD ⊢
  clear hD hs1 hs2 hs3
  unfold stV
  simp only
  obtain ⟨⟨s1, h1, l1⟩, m1⟩ := p
  obtain ⟨p2, m2, ⟨s2, h2, l2⟩, o2, a2⟩ := x
  unfold pxV paV at *
  simp only at *
  have HF := Lib.hid ((Fr.refl N0 wr).alloc (.cells #[.int .i64 q, .bool s1, .int .u64 (h1 : Int), .int .u64 (l1 : Int), .int .i64 m1, .int .i64 p2, .int .i64 m2, .bool s2, .int .u64 (h2 : Int), .int .u64 (l2 : Int), .int .i64 o2, .bool a2] 36))
  have H2 := Lib.hid (h.n0 HF.out)
  have hB := Blk.new wr 36 #[.int .i64 q, .bool s1, .int .u64 (h1 : Int), .int .u64 (l1 : Int), .int .i64 m1, .int .i64 p2, .int .i64 m2, .bool s2, .int .u64 (h2 : Int), .int .u64 (l2 : Int), .int .i64 o2, .bool a2]
  have z0 := hB.cell 0
  have z1 := hB.cell 1
  have z2 := hB.cell 2
  have z3 := hB.cell 3
  have z4 := hB.cell 4
  have z5 := hB.cell 5
  have z6 := hB.cell 6
  have z7 := hB.cell 7
  have z8 := hB.cell 8
  have z9 := hB.cell 9
  have z10 := hB.cell 10
  have z11 := hB.cell 11
  simp only [List.getElem?_toArray, List.getElem?_cons_zero, List.getElem?_cons_succ] at z0 z1 z2 z3 z4 z5 z6 z7 z8 z9 z10 z11
  clear hB h
  generalize q % 8 = u at *
  have hto : ∀ (L' : List Td) (w' : World), RfTo (wr.alloc (.cells #[.int .i64 q, .bool s1, .int .u64 (h1 : Int), .int .u64 (l1 : Int), .int .i64 m1, .int .i64 p2, .int .i64 m2, .bool s2, .int .u64 (h2 : Int), .int .u64 (l2 : Int), .int .i64 o2, .bool a2] 36)) r Ft L' w' → RfTo wr r Ft L' w' := fun _ _ h => h.after HF.out
  have HTO := Lib.hid hto
  clear hto
  by_cases e3 : u = 3
  · subst e3
    have HR := Lib.hid (HD.out.trans (if_pos rfl))
    clear HD
    have k := kd _ H2.out
    clear kd kf kp
    go_enter Tryz.func9, Tryz.ntmps9
    go_wp2_with fail
    refine k.mono ?_
    rintro e w3 ⟨rfl, ht⟩
    go_wp2_with fail
    go_ret2
    rw [HR.out]
    exact ⟨rfl, HTO.out _ _ ht⟩
  · have t3 : (u == 3) = false := by rw [beq_eq_false_iff_ne]; exact e3
    by_cases e4 : u = 4
    · subst e4
      have HR := Lib.hid (HD.out.trans ((if_neg e3).trans (if_pos rfl)))
      clear HD
      have k := kf _ H2.out
      clear kd kf kp
      go_enter Tryz.func9, Tryz.ntmps9
      go_wp2_with fail
      refine k.mono ?_
      rintro e w3 ⟨rfl, ht⟩
      go_wp2_with fail
      go_ret2
      rw [HR.out]
      exact ⟨rfl, HTO.out _ _ ht⟩
    · have t4 : (u == 4) = false := by rw [beq_eq_false_iff_ne]; exact e4
      have HR := Lib.hid (HD.out.trans ((if_neg e3).trans (if_neg e4)))
      clear HD
      have k := kp _ H2.out
      clear kd kf kp
      go_enter Tryz.func9, Tryz.ntmps9
      go_wp2_with fail
      refine k.mono ?_
      rintro e w3 ⟨rfl, ht⟩
      go_wp2_with fail
      go_ret2
      rw [HR.out]
      exact ⟨rfl, HTO.out _ _ ht⟩
end
end Go.Proofs.YtnklbeigikcfkaaGreatDoor
namespace Go.Proofs.YtnklbeigikcfkaaGreatDoor
open Go.Proofs Go.RowKit
set_option maxHeartbeats 25600000 in
set_option maxRecDepth 100000 in
theorem tells_ {w : World} (r q : Nat) (F G : Nat → Prop) (L : List Td) (p : Px) (hp : p.ok) (hR : RibIs w r F L) (hQ : Rf w q G L) :
    Calls Tryz.prog 10 #[.pointer (some ⟨r, 0, none⟩), .pointer (some ⟨q, 0, none⟩), pxV p] w fun e w' => e = .returned (.bool true) ∧ Fr N0 w w' := by
  have KB1 := Lib.hid fun (W : World) (hW : Fr N0 w W) => bst_ (w := W) r F L p (hR.n0 hW) hp
  have KB2 := Lib.hid fun (W : World) (hW : Fr N0 w W) => rf_best (w := W) q G L p (hQ.n0 hW)
  have KX1 := Lib.hid fun (W : World) (hW : Fr N0 w W) => prf_ (w := W) r F L (hR.n0 hW)
  have KX2 := Lib.hid fun (W : World) (hW : Fr N0 w W) => rf_prefs (w := W) q G L (hQ.n0 hW)
  have KC := Lib.hid fun (W : World) (hW : Fr N0 w W) => cnt_ (w := W) r F L (hR.n0 hW)
  have KP1 := Lib.hid fun (W : World) (hW : Fr N0 w W) => pth_ (w := W) r F L p (hR.n0 hW) hp
  have KP2 := Lib.hid fun (W : World) (hW : Fr N0 w W) => rf_paths (w := W) q G L p (hQ.n0 hW)
  have KO1 := Lib.hid fun (W : World) (hW : Fr N0 w W) => ovr_ (w := W) r F L p.ad (hR.n0 hW) hp.1
  have KO2 := Lib.hid fun (W : World) (hW : Fr N0 w W) => rf_over (w := W) q G L p.ad (hQ.n0 hW) hp.1
  have hle := len_le hR.row
  have h4 := hR.row.four p
  have h90 := hR.row.many
  have hov : (overT L p.ad).length ≤ 90 := by
    unfold overT
    rw [List.length_reverse]
    exact Nat.le_trans (List.length_filter_le _ _) h90
  obtain ⟨Aq, cq, hBq, _, _⟩ := hQ.mem
  have HBQ := Lib.hid fun (W : World) (hW : Fr N0 w W) => (hBq.fr hW id).c1'
  have hqw := hBq.lt
  have HQL := Lib.hid fun (W : World) (hW : Fr N0 w W) => (hBq.fr hW id).lt
  clear hR hQ hp hBq
  unfold NewPs at KP1 KP2
  unfold NewXs at KX1 KX2 KO1 KO2
  obtain ⟨B, hB⟩ : ∃ B, B = bestT L p := ⟨_, rfl⟩
  rw [← hB] at KB1 KB2
  obtain ⟨x, b⟩ := B
  generalize pathsT L p = lp at *
  generalize prefsT L = lx at *
  generalize overT L p.ad = lo at *
  obtain ⟨np, hnp⟩ : ∃ n, n = lp.length := ⟨_, rfl⟩
  obtain ⟨nx, hnx⟩ : ∃ n, n = lx.length := ⟨_, rfl⟩
  obtain ⟨no, hno⟩ : ∃ n, n = lo.length := ⟨_, rfl⟩
  rw [← hnp] at KP1 KP2 h4
  rw [← hnx] at KX1 KX2 h90
  rw [← hno] at KO1 KO2 hov
  have KSP := Lib.hid fun (W : World) (A A' : Option Addr) (c c' : Nat) (h1 : Own W 34 7 A np c (flat lp)) (h2 : Own W 34 7 A' np c' (flat lp)) => same_pa A A' np c np c' lp lp h1 hnp.symm h2 hnp.symm (by omega)
  have KSX := Lib.hid fun (W : World) (A A' : Option Addr) (c c' : Nat) (h1 : Own W 32 4 A nx c (flat lx)) (h2 : Own W 32 4 A' nx c' (flat lx)) => same_px A A' nx c nx c' lx lx h1 hnx.symm h2 hnx.symm (by omega)
  have KSO := Lib.hid fun (W : World) (A A' : Option Addr) (c c' : Nat) (h1 : Own W 32 4 A no c (flat lo)) (h2 : Own W 32 4 A' no c' (flat lo)) => same_px A A' no c no c' lo lo h1 hno.symm h2 hno.symm (by omega)
  rw [decide_eq_true rfl] at KSP KSX KSO
  generalize L.length = z at *
  clear hB hnp hnx hno
  have E := fun W => neql_pa x x W
  have EG := fun X Y W => nguard_pa X Y x x W
  rw [decide_eq_true rfl] at E
  have HE := Lib.hid E
  have HEG := Lib.hid EG
  clear E EG
  obtain ⟨⟨s, h1, l⟩, m⟩ := p
  obtain ⟨xp, xm, ⟨xs, xh, xl⟩, xo, xa⟩ := x
  unfold pxV at KB1 KB2 KP1 KP2 ⊢
  unfold paV at KB1 KB2 HE HEG
  unfold adV at KO1 KO2
  simp only at KB1 KB2 KP1 KP2 KO1 KO2 HE HEG ⊢
  go_enter Tryz.func10, Tryz.ntmps10
  go_wp2_with fail
  have HA1 := Lib.hid (Blk.new w 32 #[Value.bool s, Value.int .u64 (h1 : Int), Value.int .u64 (l : Int), Value.int .i64 m])
  have HF1 := Lib.hid (Fr.alloc (Fr.refl N0 w) (.cells #[Value.bool s, Value.int .u64 (h1 : Int), Value.int .u64 (l : Int), Value.int .i64 m] 32))
  generalize w.alloc _ = w1 at *
  obtain ⟨g1, hg1⟩ : ∃ g1, g1 = w.heap.size := ⟨_, rfl⟩
  rw [← hg1] at HA1 ⊢
  have HG1 : Hid (w.heap.size ≤ g1) := Lib.hid (by omega)
  clear hg1
  have HZ1 : Hid (∀ W, Fr N0 w1 W → Blk W g1 32 #[Value.bool s, Value.int .u64 (h1 : Int), Value.int .u64 (l : Int), Value.int .i64 m]) := Lib.hid fun W hf => HA1.out.fr hf id
  have F := Lib.hid (Fr.refl N0 w1)
  obtain ⟨z1_0, z1_1, z1_2, z1_3⟩ := (HZ1.out _ F.out).c4
  refine (KB1.out _ HF1.out).mono ?_
  rintro e w2 ⟨rfl, hf⟩
  have F2 := Lib.hid (HF1.out.trans hf)
  have P2 := Lib.hid (HZ1.out _ hf)
  have HX := Lib.hid (Blk.new w2 34 #[.int .i64 xp, .int .i64 xm, .bool xs, .int .u64 (xh : Int), .int .u64 (xl : Int), .int .i64 xo, .bool xa])
  have hfa := (Fr.refl N0 w2).alloc (.cells #[.int .i64 xp, .int .i64 xm, .bool xs, .int .u64 (xh : Int), .int .u64 (xl : Int), .int .i64 xo, .bool xa] 34)
  have F3 := Lib.hid (F2.out.trans hfa)
  have P3 := Lib.hid (P2.out.fr hfa id)
  clear hf hfa z1_0 z1_1 z1_2 z1_3 F2 P2
  obtain ⟨z0, z1, z2, z3⟩ := P3.out.c4
  go_wp2_with fail
  generalize w2.alloc (.cells #[.int .i64 xp, .int .i64 xm, .bool xs, .int .u64 (xh : Int), .int .u64 (xl : Int), .int .i64 xo, .bool xa] 34) = w3 at *
  obtain ⟨gx, hgx⟩ : ∃ g, g = w2.heap.size := ⟨_, rfl⟩
  rw [← hgx] at HX ⊢
  clear hgx
  refine (KB2.out _ F3.out).mono ?_
  rintro e w4 ⟨rfl, hf⟩
  have F4 := Lib.hid (F3.out.trans hf)
  have P4 := Lib.hid (P3.out.fr hf id)
  have X4 := Lib.hid (HX.out.fr hf id)
  have HY := Lib.hid (Blk.new w4 34 #[.int .i64 xp, .int .i64 xm, .bool xs, .int .u64 (xh : Int), .int .u64 (xl : Int), .int .i64 xo, .bool xa])
  have hfa := (Fr.refl N0 w4).alloc (.cells #[.int .i64 xp, .int .i64 xm, .bool xs, .int .u64 (xh : Int), .int .u64 (xl : Int), .int .i64 xo, .bool xa] 34)
  have F5 := Lib.hid (F4.out.trans hfa)
  have P5 := Lib.hid (P4.out.fr hfa id)
  have X5 := Lib.hid (X4.out.fr hfa id)
  clear hf hfa z0 z1 z2 z3 F3 P3 HX F4 P4 X4
  go_wp2_with fail
  generalize w4.alloc (.cells #[.int .i64 xp, .int .i64 xm, .bool xs, .int .u64 (xh : Int), .int .u64 (xl : Int), .int .i64 xo, .bool xa] 34) = w5 at *
  obtain ⟨gy, hgy⟩ : ∃ g, g = w4.heap.size := ⟨_, rfl⟩
  rw [← hgy] at HY ⊢
  clear hgy
  refine (KX1.out _ F5.out).mono ?_
  rintro e w6 ⟨v, rfl, A6, c6, rfl, ho6, hf, _⟩
  have F6 := Lib.hid (F5.out.trans hf)
  have P6 := Lib.hid (P5.out.fr hf id)
  have HL := Lib.hid ho6
  have X6 := Lib.hid (X5.out.fr hf id)
  have Y6 := Lib.hid (HY.out.fr hf id)
  clear hf ho6 F5 P5 X5 HY
  have HSS := Lib.hid (show ∀ w', Fr N0 w6 w' → (w'.cell? ⟨gx, 0, none⟩ = some (.int .i64 xp) ∧ w'.cell? ⟨gx, 1, none⟩ = some (.int .i64 xm) ∧ w'.cell? ⟨gx, 2, none⟩ = some (.bool xs) ∧ w'.cell? ⟨gx, 3, none⟩ = some (.int .u64 (xh : Int)) ∧ w'.cell? ⟨gx, 4, none⟩ = some (.int .u64 (xl : Int)) ∧ w'.cell? ⟨gx, 5, none⟩ = some (.int .i64 xo) ∧ w'.cell? ⟨gx, 6, none⟩ = some (.bool xa) ∧ w'.cell? ⟨gy, 0, none⟩ = some (.int .i64 xp) ∧ w'.cell? ⟨gy, 1, none⟩ = some (.int .i64 xm) ∧ w'.cell? ⟨gy, 2, none⟩ = some (.bool xs) ∧ w'.cell? ⟨gy, 3, none⟩ = some (.int .u64 (xh : Int)) ∧ w'.cell? ⟨gy, 4, none⟩ = some (.int .u64 (xl : Int)) ∧ w'.cell? ⟨gy, 5, none⟩ = some (.int .i64 xo) ∧ w'.cell? ⟨gy, 6, none⟩ = some (.bool xa) ∧ w'.cell? ⟨q, 0, none⟩ = some (.slice Aq z cq)) from fun W hW => by
    obtain ⟨x0, x1, x2, x3, x4, x5, x6⟩ := (X6.out.fr hW id).c7
    obtain ⟨y0, y1, y2, y3, y4, y5, y6⟩ := (Y6.out.fr hW id).c7
    exact ⟨x0, x1, x2, x3, x4, x5, x6, y0, y1, y2, y3, y4, y5, y6, HBQ.out _ (F6.out.trans hW)⟩)
  obtain ⟨x0, x1, x2, x3, x4, x5, x6, y0, y1, y2, y3, y4, y5, y6, cq0⟩ := HSS.out _ (Fr.refl N0 w6)
  have ql := HQL.out _ F6.out
  have E := HE.out
  have EG := HEG.out
  have tb : (b != b) = false := by simp
  have PB := Lib.hid fun (W : World) (hW : Fr N0 w6 W) => (P6.out.fr hW id).c4
  go_wp2_with fail
  have FC := Lib.hid (Fr.refl N0 w6)
  have HL6 := Lib.hid fun (W : World) (hW : Fr N0 w6 W) => HL.out.fr hW fun _ _ => id
  go_region_held3 (fun w' => w'.cell? ⟨gx, 0, none⟩ = some (.int .i64 xp) ∧ w'.cell? ⟨gx, 1, none⟩ = some (.int .i64 xm) ∧ w'.cell? ⟨gx, 2, none⟩ = some (.bool xs) ∧ w'.cell? ⟨gx, 3, none⟩ = some (.int .u64 (xh : Int)) ∧ w'.cell? ⟨gx, 4, none⟩ = some (.int .u64 (xl : Int)) ∧ w'.cell? ⟨gx, 5, none⟩ = some (.int .i64 xo) ∧ w'.cell? ⟨gx, 6, none⟩ = some (.bool xa) ∧ w'.cell? ⟨gy, 0, none⟩ = some (.int .i64 xp) ∧ w'.cell? ⟨gy, 1, none⟩ = some (.int .i64 xm) ∧ w'.cell? ⟨gy, 2, none⟩ = some (.bool xs) ∧ w'.cell? ⟨gy, 3, none⟩ = some (.int .u64 (xh : Int)) ∧ w'.cell? ⟨gy, 4, none⟩ = some (.int .u64 (xl : Int)) ∧ w'.cell? ⟨gy, 5, none⟩ = some (.int .i64 xo) ∧ w'.cell? ⟨gy, 6, none⟩ = some (.bool xa) ∧ w'.cell? ⟨q, 0, none⟩ = some (.slice Aq z cq)) (first | go_keep | exact HSS.out _ (by repeat first | exact FC.out | refine Fr.drew ?_ | refine Fr.drewN ?_ _)) ((first
    | (go_at_call 20; (with_reducible refine (KC.out _ (F6.out.trans (by repeat first | exact FC.out | refine Fr.drew ?_ | refine Fr.drewN ?_ _))).mono ?_); rintro e wz ⟨rfl, hf⟩; have FC := Lib.hid (Fr.trans (by repeat first | exact FC.out | refine Fr.drew ?_ | refine Fr.drewN ?_ _) hf : Fr N0 w6 _); clear hf)
    | (go_at_call 31; (with_reducible refine (KX2.out _ (F6.out.trans (by repeat first | exact FC.out | refine Fr.drew ?_ | refine Fr.drewN ?_ _))).mono ?_); rintro e wz ⟨v, rfl, AM, cM, rfl, hoM, hf, _⟩; have HM := Lib.hid hoM; have FC := Lib.hid (Fr.trans (by repeat first | exact FC.out | refine Fr.drew ?_ | refine Fr.drewN ?_ _) hf : Fr N0 w6 _); clear hf hoM)
    | (go_at_call 30; (with_reducible refine (KSX.out _ _ _ _ _ (HL6.out _ FC.out) HM.out).mono ?_); rintro e wz ⟨rfl, hf⟩; have FC := Lib.hid (FC.out.trans hf); clear hf)))
  all_goals
    clear x0 x1 x2 x3 x4 x5 x6 y0 y1 y2 y3 y4 y5 y6 cq0 ql E EG HE HEG tb
    clear HSS HL6 HL HM X6 Y6 HBQ HQL
    obtain ⟨z0, z1, z2, z3⟩ := PB.out _ FC.out
    go_wp2_with fail
    go_region_held3 (fun w' => w'.cell? ⟨g1, 0, none⟩ = some (.bool s) ∧ w'.cell? ⟨g1, 1, none⟩ = some (.int .u64 (h1 : Int)) ∧ w'.cell? ⟨g1, 2, none⟩ = some (.int .u64 (l : Int)) ∧ w'.cell? ⟨g1, 3, none⟩ = some (.int .i64 m)) (first | go_keep | exact PB.out _ (by repeat first | exact FC.out | refine Fr.drew ?_ | refine Fr.drewN ?_ _)) ((first
      | (go_at_call 11; (with_reducible refine (KP1.out _ (F6.out.trans (by repeat first | exact FC.out | refine Fr.drew ?_ | refine Fr.drewN ?_ _))).mono ?_); rintro e wz ⟨v, rfl, AR, cR, rfl, ho, hf, _⟩; (try have HS := Lib.hid (HS.out.fr hf fun _ _ => id)); have HR := Lib.hid ho; have FC := Lib.hid (Fr.trans (by repeat first | exact FC.out | refine Fr.drew ?_ | refine Fr.drewN ?_ _) hf : Fr N0 w6 _); clear hf ho)
      | (go_at_call 32; (with_reducible refine (KP2.out _ (F6.out.trans (by repeat first | exact FC.out | refine Fr.drew ?_ | refine Fr.drewN ?_ _))).mono ?_); rintro e wz ⟨v, rfl, AS, cS, rfl, ho, hf, _⟩; (try have HR := Lib.hid (HR.out.fr hf fun _ _ => id)); have HS := Lib.hid ho; have FC := Lib.hid (Fr.trans (by repeat first | exact FC.out | refine Fr.drew ?_ | refine Fr.drewN ?_ _) hf : Fr N0 w6 _); clear hf ho)
      | (go_at_call 23; (with_reducible refine (KSP.out _ _ _ _ _ HR.out HS.out).mono ?_); rintro e wz ⟨rfl, hf⟩; have FC := Lib.hid (FC.out.trans hf); clear hf)
      | (go_at_call 25; (with_reducible refine (KO1.out _ (F6.out.trans (by repeat first | exact FC.out | refine Fr.drew ?_ | refine Fr.drewN ?_ _))).mono ?_); rintro e wz ⟨v, rfl, AO, cO, rfl, ho, hf, _⟩; (try have HQ := Lib.hid (HQ.out.fr hf fun _ _ => id)); have HO := Lib.hid ho; have FC := Lib.hid (Fr.trans (by repeat first | exact FC.out | refine Fr.drew ?_ | refine Fr.drewN ?_ _) hf : Fr N0 w6 _); clear hf ho)
      | (go_at_call 33; (with_reducible refine (KO2.out _ (F6.out.trans (by repeat first | exact FC.out | refine Fr.drew ?_ | refine Fr.drewN ?_ _))).mono ?_); rintro e wz ⟨v, rfl, AQ, cQ, rfl, ho, hf, _⟩; (try have HO := Lib.hid (HO.out.fr hf fun _ _ => id)); have HQ := Lib.hid ho; have FC := Lib.hid (Fr.trans (by repeat first | exact FC.out | refine Fr.drew ?_ | refine Fr.drewN ?_ _) hf : Fr N0 w6 _); clear hf ho)
      | (go_at_call 30; (with_reducible refine (KSO.out _ _ _ _ _ HO.out HQ.out).mono ?_); rintro e wz ⟨rfl, hf⟩; have FC := Lib.hid (FC.out.trans hf); clear hf)))
    all_goals
      clear z0 z1 z2 z3
      go_wp2_with fail
      go_ret
      exact ⟨rfl, F6.out.trans FC.out⟩
end Go.Proofs.YtnklbeigikcfkaaGreatDoor
