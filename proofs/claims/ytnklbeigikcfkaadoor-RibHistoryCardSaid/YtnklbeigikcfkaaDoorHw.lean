/- A step done; a rib made by steps. Things side by side in memory: each has blocks of its own. A rib among other things. RibHistory: what it answers. -/
import Derived.Test.YtnklbeigikcfkaaDoorQf
import Derived.Test.YtnklbeigikcfkaaDoorVa
import Derived.Test.YtnklbeigikcfkaaDoorFl
import Derived.Test.YtnklbeigikcfkaaDoorAe
import Derived.Test.YtnklbeigikcfkaaDoorRp5
namespace Go.Proofs.YtnklbeigikcfkaaDoor
open Go.Proofs Go.RowKit
def stV (s : St) : Value := .agg #[.int .i64 s.what, .bool s.p.ad.six, .int .u64 (s.p.ad.hi : Int), .int .u64 (s.p.ad.lo : Int), .int .i64 s.p.bits, .int .i64 s.x.proto, .int .i64 s.x.metric, .bool s.x.via.six, .int .u64 (s.x.via.hi : Int), .int .u64 (s.x.via.lo : Int), .int .i64 s.x.port, .bool s.x.away]
def doT (L : List Td) (s : St) : List Td × Int × Int :=
  if s.what % 8 = 3 then ((dropT L s.p s.x).1, 0, (dropT L s.p s.x).2)
  else if s.what % 8 = 4 then (flushT L s.x.proto, (L.length : Int) - ((flushT L s.x.proto).length : Int), 0)
  else ((putT clsA L s.p s.x).1, 0, (putT clsA L s.p s.x).2)
section
variable {w wr : World} {r : Nat} {N : Nat → Prop} {L : List Td}
set_option maxHeartbeats 6400000 in
set_option maxRecDepth 100000 in
theorem RB.step_ (h : RB w wr r N L) (s : St) (hs : s.ok) :
    Calls Tryd.prog 27 #[.pointer (some ⟨r, 0, none⟩), stV s] wr fun e w' => e = .returned (.tuple #[.int .i64 (doT L s).2.1, .int .i64 (doT L s).2.2]) ∧ RBTo w wr r N (doT L s).1 w' := by
  obtain ⟨hs1, hs2, hs3⟩ := hs
  obtain ⟨q, p, x⟩ := s
  simp only at hs1 hs2 hs3
  have hand := i64_and7 q
  have kd := fun (W : World) (h' : RB w W r N L) => h'.drop p x hs2
  have kf := fun (W : World) (h' : RB w W r N L) => h'.flush x.proto
  have kp := fun (W : World) (h' : RB w W r N L) => h'.put p x hs2 hs3
  have HD := Lib.hid (show doT L ⟨q, p, x⟩ = if q % 8 = 3 then ((dropT L p x).1, 0, (dropT L p x).2) else if q % 8 = 4 then (flushT L x.proto, (L.length : Int) - ((flushT L x.proto).length : Int), 0) else ((putT clsA L p x).1, 0, (putT clsA L p x).2) from rfl)
  obtain ⟨D, hD⟩ : ∃ D, D = doT L ⟨q, p, x⟩ := ⟨_, rfl⟩
  rw [← hD] at HD ⊢
  clear hD hs1 hs2 hs3
  unfold stV
  simp only
  obtain ⟨⟨s1, h1, l1⟩, m1⟩ := p
  obtain ⟨p2, m2, ⟨s2, h2, l2⟩, o2, a2⟩ := x
  unfold pxV paV at *
  simp only at *
  have HF := Lib.hid ((Fr.refl N0 wr).alloc (.cells #[.int .i64 q, .bool s1, .int .u64 (h1 : Int), .int .u64 (l1 : Int), .int .i64 m1, .int .i64 p2, .int .i64 m2, .bool s2, .int .u64 (h2 : Int), .int .u64 (l2 : Int), .int .i64 o2, .bool a2] 59))
  have H2 := Lib.hid (h.n0 HF.out)
  have hB := Blk.new wr 59 #[.int .i64 q, .bool s1, .int .u64 (h1 : Int), .int .u64 (l1 : Int), .int .i64 m1, .int .i64 p2, .int .i64 m2, .bool s2, .int .u64 (h2 : Int), .int .u64 (l2 : Int), .int .i64 o2, .bool a2]
  have z0 := hB.cell 0
  have z1 := hB.cell 1
  have z2 := hB.cell 2
  have z3 := hB.cell 3
  have z4 := hB.cell 4
  have z5 := hB.cell 5
  have z6 := hB.cell 6
  have z7 := hB.cell 7
  have z8 := hB.cell 8
  have z9 := hB.cell 9
  have z10 := hB.cell 10
  have z11 := hB.cell 11
  simp only [List.getElem?_toArray, List.getElem?_cons_zero, List.getElem?_cons_succ] at z0 z1 z2 z3 z4 z5 z6 z7 z8 z9 z10 z11
  clear hB h
  generalize q % 8 = u at *
  have hto : ∀ (L' : List Td) (w' : World), RBTo w (wr.alloc (.cells #[.int .i64 q, .bool s1, .int .u64 (h1 : Int), .int .u64 (l1 : Int), .int .i64 m1, .int .i64 p2, .int .i64 m2, .bool s2, .int .u64 (h2 : Int), .int .u64 (l2 : Int), .int .i64 o2, .bool a2] 59)) r N L' w' → RBTo w wr r N L' w' := fun _ _ h => ⟨h.1, (HF.out.mono fun _ _ k => k.elim).trans h.2⟩
  have HTO := Lib.hid hto
  clear hto
  by_cases e3 : u = 3
  · subst e3
    have HR := Lib.hid (HD.out.trans (if_pos rfl))
    clear HD
    have k := kd _ H2.out
    clear kd kf kp
    go_enter Tryd.func27, Tryd.ntmps27
    go_wp2_with fail
    refine k.mono ?_
    rintro e w3 ⟨rfl, ht⟩
    go_wp2_with fail
    go_ret2
    rw [HR.out]
    exact ⟨rfl, HTO.out _ _ ht⟩
  · have t3 : (u == 3) = false := by rw [beq_eq_false_iff_ne]; exact e3
    by_cases e4 : u = 4
    · subst e4
      have HR := Lib.hid (HD.out.trans ((if_neg e3).trans (if_pos rfl)))
      clear HD
      have k := kf _ H2.out
      clear kd kf kp
      go_enter Tryd.func27, Tryd.ntmps27
      go_wp2_with fail
      refine k.mono ?_
      rintro e w3 ⟨rfl, ht⟩
      go_wp2_with fail
      go_ret2
      rw [HR.out]
      exact ⟨rfl, HTO.out _ _ ht⟩
    · have t4 : (u == 4) = false := by rw [beq_eq_false_iff_ne]; exact e4
      have HR := Lib.hid (HD.out.trans ((if_neg e3).trans (if_neg e4)))
      clear HD
      have k := kp _ H2.out
      clear kd kf kp
      go_enter Tryd.func27, Tryd.ntmps27
      go_wp2_with fail
      refine k.mono ?_
      rintro e w3 ⟨rfl, ht⟩
      go_wp2_with fail
      go_ret2
      rw [HR.out]
      exact ⟨rfl, HTO.out _ _ ht⟩
end
def madeT (l : List St) : List Td := l.foldl (fun L s => (doT L s).1) []
theorem madeT_snoc (l : List St) (s : St) : madeT (l ++ [s]) = (doT (madeT l) s).1 := by unfold madeT; rw [List.foldl_append]; rfl
theorem StIn.at {w W : World} {A : Option Addr} {l : List St} (h : StIn w A l) (hf : Fr N0 w W) {j : Nat} {s : St} (hj : l[j]? = some s) : ∃ b off, A = some ⟨b, off, none⟩ ∧ s.ok ∧ ∀ k v, (St.cs s)[k]? = some v → W.cell? ⟨b, off + (j * 12 + k), none⟩ = some v := by
  obtain ⟨b, off, hA, hb, hc⟩ := h (fun e => by rw [e] at hj; simp at hj)
  obtain ⟨hs, hcs⟩ := hc j s hj
  exact ⟨b, off, hA, hs, fun k v hk => by
    have := hcs k v hk
    rw [hf.cell (p := ⟨b, off + (j * 12 + k), none⟩) (World.block_lt_of_cell? _ _ this) id]
    exact this⟩
set_option maxHeartbeats 6400000 in
set_option maxRecDepth 100000 in
theorem made_ {w : World} (hd : Dst w) (A : Option Addr) (n c : Nat) (l : List St) (hs : StIn w A l) (hl : l.length = n) :
    Calls Tryd.prog 10 #[.slice A n c] w fun e w' => ∃ g, e = .returned (.pointer (some ⟨g, 0, none⟩)) ∧ w.heap.size ≤ g ∧ RB w w' g N0 (madeT (l.take 60)) := by
  have k1 := rb_new hd
  have HS := Lib.hid hs
  have HL := Lib.hid hl
  clear hs hl hd
  go_enter Tryd.func10, Tryd.ntmps10
  go_wp2_with fail
  refine k1.mono ?_
  rintro e w1 ⟨r, rfl, hr, h1⟩
  have H1 := Lib.hid h1
  have HRW := Lib.hid hr
  clear k1 h1 hr
  go_wp2_with fail
  go_loopw [4] (fun vi wr => ∃ j : Nat, j ≤ n ∧ j ≤ 60 ∧ vi = .int .i64 (j : Int) ∧ RB w wr r N0 (madeT (l.take j))) (fun vi _ => 61 - (intOf vi).toNat)
  case atStart => exact ⟨0, Nat.zero_le _, Nat.zero_le _, rfl, H1.out⟩
  case round =>
    obtain ⟨j, hj, hj6, rfl, hR⟩ := hrel
    have HR := Lib.hid hR
    clear hR H1
    by_cases hjn : j < n
    · have hjI : (j : Int) < (n : Int) := by omega
      by_cases hj60 : j < 60
      · have hj60I : (j : Int) < 60 := by omega
        obtain ⟨s, hsj⟩ : ∃ s, l[j]? = some s := ⟨_, List.getElem?_eq_getElem (by have := HL.out; omega)⟩
        obtain ⟨b, off, rfl, hok, hc⟩ := HS.out.at HR.out.fr hsj
        have HT := Lib.hid (show l.take (j + 1) = l.take j ++ [s] by
          obtain ⟨hj, e⟩ := List.getElem?_eq_some_iff.1 hsj
          rw [List.take_succ_eq_append_getElem hj, e])
        have k2 := HR.out.step_ s hok
        obtain ⟨q, ⟨⟨s1, h1, l1⟩, m1⟩, ⟨p2, m2, ⟨s2, h2, l2⟩, o2, a2⟩⟩ := s
        have c0 := hc 0 _ rfl
        have c1 := hc 1 _ rfl
        have c2 := hc 2 _ rfl
        have c3 := hc 3 _ rfl
        have c4 := hc 4 _ rfl
        have c5 := hc 5 _ rfl
        have c6 := hc 6 _ rfl
        have c7 := hc 7 _ rfl
        have c8 := hc 8 _ rfl
        have c9 := hc 9 _ rfl
        have c10 := hc 10 _ rfl
        have c11 := hc 11 _ rfl
        unfold stV at k2
        simp only [← Nat.add_assoc, Nat.add_zero] at k2 c0 c1 c2 c3 c4 c5 c6 c7 c8 c9 c10 c11
        clear hc hsj hok
        go_wp2_with fail
        refine k2.mono ?_
        rintro e w3 ⟨rfl, ht⟩
        have H3 := Lib.hid ht.1
        clear ht k2 c0 c1 c2 c3 c4 c5 c6 c7 c8 c9 c10 c11
        go_wp2_with fail
        go_roundw
        case rel => exact ⟨j + 1, by omega, by omega, by go_num, by rw [HT.out, madeT_snoc]; exact H3.out⟩
        case measure => simp [intOf]; omega
      · have hj60I : ¬ (j : Int) < 60 := by omega
        obtain rfl : j = 60 := by omega
        go_wp2_with fail
        go_ret
        exact ⟨r, rfl, HRW.out, HR.out⟩
    · have hjI : ¬ (j : Int) < (n : Int) := by omega
      have HT := Lib.hid (show l.take 60 = l.take j by
        rw [List.take_of_length_le (by have := HL.out; omega), List.take_of_length_le (by have := HL.out; omega)])
      go_wp2_with fail
      go_ret
      exact ⟨r, rfl, HRW.out, by rw [HT.out]; exact HR.out⟩
end Go.Proofs.YtnklbeigikcfkaaDoor
namespace Go.Proofs.YtnklbeigikcfkaaDoor
open Go.Proofs Go.RowKit
/-- Something in memory: the blocks that it has, what is said of it; it stays as long as none of its blocks is turned (nor one that was there at first). -/
structure Ent (b : Nat) where
  fp : Nat → Prop
  ok : World → Prop
  st : ∀ {W W' : World} {S : Nat → Prop}, ok W → Fr S W W' → (∀ i, S i → b ≤ i ∧ ¬ fp i) → ok W'
  lt : ∀ {W : World}, ok W → ∀ i, fp i → i < W.heap.size
/-- These things stand side by side in memory laid since w. -/
structure Hp (w wr : World) (l : List (Ent w.heap.size)) : Prop where
  fr : Fr N0 w wr
  ok : ∀ o ∈ l, o.ok wr
  ge : ∀ o ∈ l, ∀ i, o.fp i → w.heap.size ≤ i
  ap : l.Pairwise fun o p => ∀ i, o.fp i → ¬ p.fp i
section
variable {w wr w' : World} {l : List (Ent w.heap.size)}
theorem Hp.start (h : Fr N0 w wr) : Hp w wr [] := ⟨h, by simp, by simp, .nil⟩
theorem Hp.n0 (h : Hp w wr l) (hf : Fr N0 wr w') : Hp w w' l :=
  ⟨h.fr.trans hf, fun o ho => o.st (h.ok o ho) hf fun _ hi => hi.elim, h.ge, h.ap⟩
theorem Hp.add (h : Hp w wr l) (hf : Fr N0 wr w') (o : Ent w.heap.size) (ho : o.ok w') (hn : ∀ i, o.fp i → wr.heap.size ≤ i) : Hp w w' (o :: l) where
  fr := h.fr.trans hf
  ok p hp := by
    rcases List.mem_cons.1 hp with rfl | hp
    · exact ho
    · exact (h.n0 hf).ok p hp
  ge p hp := by
    rcases List.mem_cons.1 hp with rfl | hp
    · exact fun i hi => Nat.le_trans h.fr.size (hn i hi)
    · exact h.ge p hp
  ap := List.pairwise_cons.2 ⟨fun p hp i hi hpi => by
    have h1 := hn i hi
    have h2 := p.lt (h.ok p hp) i hpi
    omega, h.ap⟩
theorem Hp.at (h : Hp w wr l) {k : Nat} {o : Ent w.heap.size} (hk : l[k]? = some o) : o.ok wr := h.ok o (List.mem_of_getElem? hk)
theorem Hp.sub {r : List (Ent w.heap.size)} (h : Hp w wr l) (hs : r.Sublist l) : Hp w wr r :=
  ⟨h.fr, fun o ho => h.ok o (hs.subset ho), fun o ho => h.ge o (hs.subset ho), h.ap.sublist hs⟩
theorem Hp.tail {o : Ent w.heap.size} (h : Hp w wr (o :: l)) : Hp w wr l := h.sub (List.sublist_cons_self _ _)
theorem Hp.swap {o p : Ent w.heap.size} (h : Hp w wr (o :: p :: l)) : Hp w wr (p :: o :: l) :=
  ⟨h.fr, fun q hq => h.ok q (by simp only [List.mem_cons] at hq ⊢; rcases hq with h | h | h <;> simp [h]), fun q hq => h.ge q (by simp only [List.mem_cons] at hq ⊢; rcases hq with h | h | h <;> simp [h]), by
    obtain ⟨h1, h2⟩ := List.pairwise_cons.1 h.ap
    obtain ⟨h3, h4⟩ := List.pairwise_cons.1 h2
    refine List.pairwise_cons.2 ⟨fun q hq i hi hqi => ?_, List.pairwise_cons.2 ⟨fun q hq => h1 q (List.mem_cons_of_mem _ hq), h4⟩⟩
    rcases List.mem_cons.1 hq with rfl | hq
    · exact h1 p List.mem_cons_self i hqi hi
    · exact h3 q hq i hi hqi⟩
/-- A step of one of them. -/
theorem Hp.upd (h : Hp w wr l) {k : Nat} {o o' : Ent w.heap.size} (hk : l[k]? = some o) (hf : Fr o.fp wr w') (ho : o'.ok w') (hn : ∀ i, o'.fp i → o.fp i ∨ wr.heap.size ≤ i) : Hp w w' (l.set k o') := by
  have hom := List.mem_of_getElem? hk
  have hkl := (List.getElem?_eq_some_iff.1 hk).1
  have hap := h.ap
  rw [List.pairwise_iff_getElem] at hap
  have hko : l[k] = o := (List.getElem?_eq_some_iff.1 hk).2
  have far : ∀ j (hj : j < l.length), j ≠ k → ∀ i, o.fp i → ¬ l[j].fp i := by
    intro j hj hjk i hi hji
    rcases Nat.lt_or_ge j k with hl | hl
    · exact hap j k hj hkl hl i hji (by rw [hko]; exact hi)
    · exact hap k j hkl hj (by omega) i (by rw [hko]; exact hi) hji
  have far' : ∀ j (hj : j < l.length), j ≠ k → ∀ i, o'.fp i → ¬ l[j].fp i := by
    intro j hj hjk i hi hji
    rcases hn i hi with h1 | h1
    · exact far j hj hjk i h1 hji
    · have := l[j].lt (h.ok _ (List.getElem_mem hj)) i hji
      omega
  refine ⟨h.fr.step hf fun i hi => .inr (h.ge o hom i hi), ?_, ?_, ?_⟩
  · intro p hp
    obtain ⟨j, hj, rfl⟩ := List.getElem_of_mem hp
    rw [List.getElem_set]
    split
    · exact ho
    · rename_i hjk
      rw [List.length_set] at hj
      exact (l[j]).st (h.ok _ (List.getElem_mem hj)) hf fun i hi => ⟨h.ge o hom i hi, far j hj (fun e => hjk e.symm) i hi⟩
  · intro p hp i hi
    obtain ⟨j, hj, rfl⟩ := List.getElem_of_mem hp
    rw [List.getElem_set] at hi
    split at hi
    · rcases hn i hi with h1 | h1
      · exact h.ge o hom i h1
      · exact Nat.le_trans h.fr.size h1
    · rw [List.length_set] at hj
      exact h.ge _ (List.getElem_mem hj) i hi
  · rw [List.pairwise_iff_getElem]
    intro a b ha hb hab i hai hbi
    rw [List.length_set] at ha hb
    rw [List.getElem_set] at hai hbi
    by_cases h1 : k = a
    · rw [if_pos h1] at hai
      rw [if_neg (by omega)] at hbi
      exact far' b hb (by omega) i hai hbi
    · rw [if_neg h1] at hai
      by_cases h2 : k = b
      · rw [if_pos h2] at hbi
        exact far' a ha (by omega) i hbi hai
      · rw [if_neg h2] at hbi
        exact hap a b ha hb hab i hai hbi
end
/-- A block known whole. -/
def blkO (b g : Nat) (t : TypeId) (cs : Array Value) : Ent b where
  fp i := i = g
  ok W := Blk W g t cs
  st h hf hS := h.fr hf fun k => (hS _ k).2 rfl
  lt h _ hi := hi ▸ h.lt
/-- A slice of the call's own. -/
def ownO (b : Nat) (e : TypeId) (k : Nat) (A : Option Addr) (n c : Nat) (xs : List Value) : Ent b where
  fp i := A = some ⟨i, 0, none⟩
  ok W := Own W e k A n c xs
  st h hf hS := h.fr hf fun _ e k => (hS _ k).2 e
  lt h _ hi := h.lt hi
/-- Nothing. -/
def nopO (b : Nat) : Ent b := ⟨fun _ => False, fun _ => True, fun _ _ _ => trivial, fun _ _ h => h.elim⟩
end Go.Proofs.YtnklbeigikcfkaaDoor
namespace Go.Proofs.YtnklbeigikcfkaaDoor
open Go.Proofs Go.RowKit
def ribO (b r : Nat) (F : Nat → Prop) (L : List Td) : Ent b where
  fp := F
  ok W := RibIs W r F L ∧ 0 < b
  st h hf hS := ⟨h.1.fr hf (fun _ hi hs => (hS _ hs).2 hi) (fun hs => by have := (hS _ hs).1; have := h.2; omega), h.2⟩
  lt h _ hi := h.1.lt _ hi
section
variable {w wr w' : World} {l : List (Ent w.heap.size)}
theorem Hp.ribTo (h : Hp w wr l) {k r : Nat} {F : Nat → Prop} {L L' : List Td} (hk : l[k]? = some (ribO _ r F L)) (ht : RibTo wr r F L' w') : ∃ F', Hp w w' (l.set k (ribO _ r F' L')) := by
  obtain ⟨F', h1, h2, h3⟩ := ht
  exact ⟨F', h.upd hk h3 (o' := ribO _ r F' L') ⟨h1, (h.at hk).2⟩ h2⟩
theorem Hp.rib (h : Hp w wr l) {k r : Nat} {F : Nat → Prop} {L : List Td} (hk : l[k]? = some (ribO _ r F L)) : RibIs wr r F L := (h.at hk).1
theorem Hp.addRib (h : Hp w wr l) (hd : 0 < w.heap.size) {r : Nat} {F : Nat → Prop} {L : List Td} (hR : RibIs w' r F L) (hf : Fr N0 wr w') (hn : ∀ i, F i → wr.heap.size ≤ i) : Hp w w' (ribO _ r F L :: l) :=
  h.add hf (ribO _ r F L) ⟨hR, hd⟩ hn
theorem Hp.addOwn (h : Hp w wr l) {e : TypeId} {k : Nat} {A : Option Addr} {n c : Nat} {xs : List Value} (ho : Own w' e k A n c xs) (hf : Fr N0 wr w') (hn : ∀ g, A = some ⟨g, 0, none⟩ → wr.heap.size ≤ g) : Hp w w' (ownO _ e k A n c xs :: l) :=
  h.add hf (ownO _ e k A n c xs) ho fun i hi => hn i hi
theorem Hp.addBlk (h : Hp w wr l) {g : Nat} {t : TypeId} {cs : Array Value} (hb : Blk w' g t cs) (hf : Fr N0 wr w') (hn : wr.heap.size ≤ g) : Hp w w' (blkO _ g t cs :: l) :=
  h.add hf (blkO _ g t cs) hb fun i hi => by rw [show i = g from hi]; exact hn
end
/-- All paths of some prefixes. -/
structure Done (L S : List Td) (D : Px → Prop) : Prop where
  row : RowT clsA S
  mem : ∀ u, u ∈ S ↔ u ∈ L ∧ D u.1
end Go.Proofs.YtnklbeigikcfkaaDoor
namespace Go.Proofs.YtnklbeigikcfkaaDoor
open Go.Proofs Go.Shelf Go.RowKit
theorem StIn.fr0 {w w' : World} {A : Option Addr} {l : List St} (h : StIn w A l) (hf : Fr N0 w w') : StIn w' A l := by
  intro hl
  obtain ⟨b, off, hA, hb, hc⟩ := h hl
  exact ⟨b, off, hA, Nat.lt_of_lt_of_le hb hf.size, fun i s his => ⟨(hc i s his).1, fun j v hv => (hf.cell (p := ⟨b, off + (i * 12 + j), none⟩) hb id).trans ((hc i s his).2 j v hv)⟩⟩
theorem Done.part {L S : List Td} {D : Px → Prop} {p : Px} {k : Nat} (h : Done L S D) (hk : (pathsT L p).length ≤ k) : Part L S D p k where
  row := h.row
  mem u := by
    rw [h.mem]
    constructor
    · rintro ⟨h1, h2⟩
      exact ⟨h1, .inl h2⟩
    · rintro ⟨h1, h2 | ⟨_, i, h3, h4⟩⟩
      · exact ⟨h1, h2⟩
      · have := (List.getElem?_eq_some_iff.1 h4).1
        omega
theorem Part.done {L S : List Td} {D D' : Px → Prop} {p : Px} (h : Part L S D p 0) (hD : ∀ q, D' q ↔ D q ∨ q = p) : Done L S D' where
  row := h.row
  mem u := by
    rw [h.mem, hD]
    constructor
    · rintro ⟨h1, h2 | ⟨h2, _⟩⟩
      · exact ⟨h1, .inl h2⟩
      · exact ⟨h1, .inr h2⟩
    · rintro ⟨h1, h2 | h2⟩
      · exact ⟨h1, .inl h2⟩
      · refine ⟨h1, .inr ⟨h2, ?_⟩⟩
        have hm : u.2 ∈ pathsT L p := mem_pathsT.2 (by rw [← h2]; exact h1)
        obtain ⟨i, hi⟩ := List.getElem?_of_mem hm
        exact ⟨i, Nat.zero_le _, hi⟩
theorem Done.all {L S : List Td} {D : Px → Prop} (hL : RowT clsA L) (h : Done L S D) (hD : ∀ q ∈ prefsT L, D q) : S = L :=
  up_eq hL.up h.row.up fun u => by
    rw [h.mem]
    exact ⟨fun k => k.1, fun hu => ⟨hu, hD _ (mem_prefsT.2 ⟨u.2, hu⟩)⟩⟩
theorem Done.zero (L : List Td) (P : List Px) (t : Nat) : Done L [] (Turned P t 0) where
  row := RowT.nil
  mem u := by
    constructor
    · intro h
      cases h
    · rintro ⟨_, i, hi, _⟩
      omega
/-- Where the inner loop stands. -/
def DownK (vk : Value) (k : Nat) : Prop := (k = 0 ∧ vk = .int .i64 (-1)) ∨ ∃ k', k = k' + 1 ∧ vk = .int .i64 (k' : Int)
theorem DownK.mk {k : Nat} {i : Int} (h : i = (k : Int) - 1) : DownK (.int .i64 i) k := by
  cases k with
  | zero => exact .inl ⟨rfl, by rw [h]; rfl⟩
  | succ k => exact .inr ⟨k, rfl, by rw [h]; congr 1; omega⟩
set_option maxHeartbeats 25600000 in
set_option maxRecDepth 100000 in
theorem hist_any {w : World} (hd : Dst w) (A : Option Addr) (n c : Nat) (l : List St) (hs : StIn w A l) (hl : l.length = n) (turn : Int) (ht1 : -9223372036854775808 ≤ turn) (ht2 : turn ≤ 9223372036854775807) :
    Calls Tryd.prog 4 #[.slice A n c, .int .i64 turn] w fun e w' => e = .returned (.bool true) ∧ Fr N0 w w' := by
  have ka := awake15 hd
  have KM := Lib.hid fun (W : World) (hW : Fr N0 w W) => made_ (w := W) (hd.n0 hW) A n c l (hs.fr0 hW) hl
  have KN := Lib.hid fun (W : World) (hW : Fr N0 w W) => rnew (w := W) (hd.n0 hW)
  have HDW := Lib.hid hd.lt
  obtain ⟨t, ht⟩ : ∃ t : Nat, (turn < 0 → -(turn + 1) = (t : Int)) ∧ (0 ≤ turn → turn = (t : Int)) := ⟨if turn < 0 then (-(turn + 1)).toNat else turn.toNat, fun h => by rw [if_pos h]; omega, fun h => by rw [if_neg (by omega)]; omega⟩
  have HT := Lib.hid ht
  clear hs hl hd ht
  go_enter Tryd.func4, Tryd.ntmps4
  go_wp2_with fail
  refine ka.mono ?_
  rintro e w1 ⟨rfl, hf⟩
  have HF1 := Lib.hid hf
  clear hf ka
  go_wp2_with fail
  refine (KM.out _ HF1.out).mono ?_
  rintro e w2 ⟨r, rfl, hr, h2⟩
  generalize madeT (l.take 60) = L at *
  obtain ⟨F, hR2, hF2, _⟩ := h2.rib
  have HD1 := Lib.hid (Nat.lt_of_lt_of_le HDW.out HF1.out.size)
  have HROW := Lib.hid hR2.row
  have HH := Lib.hid ((Hp.start (Fr.refl N0 w1)).addRib HD1.out hR2 h2.fr hF2)
  clear h2 KM hr hR2 hF2
  go_wp2_with fail
  refine (KN.out _ (HF1.out.trans HH.out.fr)).mono ?_
  rintro e w3 ⟨s, G, rfl, hS3, hf3, hG3⟩
  have HH3 := Lib.hid (HH.out.addRib HD1.out hS3 hf3 hG3)
  clear hS3 hf3 hG3 HH KN
  go_wp2_with fail
  refine (prf_ r F L (HH3.out.rib (k := 1) rfl)).mono ?_
  rintro e w4 ⟨v, rfl, A8, c8, rfl, ho, hf, hn⟩
  obtain ⟨P, hP⟩ : ∃ P, P = prefsT L := ⟨_, rfl⟩
  rw [← hP] at ho ⊢
  obtain ⟨m, hm⟩ : ∃ m, m = P.length := ⟨_, rfl⟩
  rw [← hm] at ho ⊢
  have HP := Lib.hid hP
  have HM := Lib.hid hm
  have HH4 := Lib.hid (HH3.out.addOwn ho hf hn)
  have hm90 : m ≤ 90 := by have := HROW.out.many; rw [← hP] at this; omega
  clear ho hf hn hP hm HH3
  go_upto_if 32 with fail
  go_cut [1] (fun v wx => v = .int .i64 (t : Int) ∧ Hp w1 wx [ownO w1.heap.size 37 4 A8 m c8 (flat P), ribO w1.heap.size s G [], ribO w1.heap.size r F L])
  case first =>
    have h1 := HT.out.1
    have h2 := HT.out.2
    by_cases hneg : turn < 0
    · have hw1 : IntKind.i64.wrap (turn + 1) = turn + 1 := IntWalk.i64_in _ (by omega)
      have hw2 : IntKind.i64.wrap (-(turn + 1)) = -(turn + 1) := IntWalk.i64_in _ (by omega)
      have HQ := Lib.hid (h1 hneg)
      clear h1 h2
      go_wp2_with fail
      go_meet
      exact ⟨by rw [← HQ.out], HH4.out⟩
    · have HQ := Lib.hid (h2 (by omega))
      clear h1 h2
      go_wp2_with fail
      go_meet
      exact ⟨by rw [← HQ.out], HH4.out⟩
  case rest =>
    obtain ⟨rfl, hcx⟩ := hcut
    have HHC := Lib.hid hcx
    have htb : (t : Int) ≤ 9223372036854775807 := by
      by_cases hneg : turn < 0
      · have := HT.out.1 hneg; omega
      · have := HT.out.2 (by omega); omega
    clear hcx HH4 HT ht1 ht2
    go_wp2_with fail
    go_loopw [9] (fun vi wr => ∃ (j : Nat) (G : Nat → Prop) (S : List Td), j ≤ m ∧ vi = .int .i64 (j : Int) ∧ Hp w1 wr [ownO w1.heap.size 37 4 A8 m c8 (flat P), ribO w1.heap.size s G S, ribO w1.heap.size r F L] ∧ Done L S (Turned P (t % m) j)) (fun vi _ => m - (intOf vi).toNat)
    case atStart => exact ⟨0, G, [], Nat.zero_le _, rfl, HHC.out, Done.zero L P _⟩
    case round =>
      obtain ⟨j, G2, S, hj, rfl, hH, hD⟩ := hrel
      rename World => wo
      clear HHC
      have HO := Lib.hid hH
      have HDN := Lib.hid hD
      clear hH hD
      by_cases hjm : j < m
      · have hm0 : 0 < m := by omega
        obtain ⟨tm, htm⟩ : ∃ tm, tm = t % m := ⟨_, rfl⟩
        have htl : tm < m := by rw [htm]; exact Nat.mod_lt _ hm0
        obtain ⟨o, ho⟩ : ∃ o, o = (j + tm) % m := ⟨_, rfl⟩
        have hol : o < m := by rw [ho]; exact Nat.mod_lt _ hm0
        obtain ⟨p, hp⟩ : ∃ p, P[o]? = some p := ⟨_, List.getElem?_eq_getElem (by have := HM.out; omega)⟩
        have hpm : p ∈ prefsT L := by rw [← HP.out]; exact List.mem_of_getElem? hp
        have hok := (HROW.out.px hpm).1
        have hpl : P.length = m := HM.out.symm
        have hidx : P[(j + tm) % P.length]? = some p := by rw [hpl, ← ho]; exact hp
        rw [← htm] at HDN
        have HFRE := Lib.hid (Turned.fresh (by rw [HP.out]; exact prefsT_nodup HROW.out.up) (by rw [hpl]; exact htl) (by rw [hpl]; exact hjm) hidx)
        have HSUC := Lib.hid (fun q => Turned.succ hidx q)
        obtain ⟨g8, rfl⟩ := (HO.out.at (k := 0) rfl : Own wo 37 4 A8 m c8 (flat P)).some_ hm0
        obtain ⟨y0, y1, y2, y3⟩ := (HO.out.at (k := 0) rfl : Own wo 37 4 _ m c8 (flat P)).e4 hpl hp
        have HTM := Lib.hid htm
        have h1 : (t : Int) % (m : Int) = (tm : Int) := by rw [htm]; rfl
        have h2 : ((j : Int) + (tm : Int)) % (m : Int) = (o : Int) := by rw [ho]; rfl
        have h3 : (t : Int).tmod (m : Int) = (tm : Int) := by rw [Int.tmod_eq_emod_of_nonneg (by omega)]; exact h1
        have h4 : ((j : Int) + (tm : Int)).tmod (m : Int) = (o : Int) := by rw [Int.tmod_eq_emod_of_nonneg (by omega)]; exact h2
        have hw : IntKind.i64.wrap ((j : Int) + (tm : Int)) = (j : Int) + (tm : Int) := IntWalk.i64_in _ (by omega)
        have hjI : (j : Int) < (m : Int) := by omega
        have hoI : (o : Int) < (m : Int) := by omega
        have hmI : ¬ (m : Int) = 0 := by omega
        obtain ⟨l0, hl0⟩ : ∃ l, l = pathsT L p := ⟨_, rfl⟩
        obtain ⟨q, hq⟩ : ∃ q, q = l0.length := ⟨_, rfl⟩
        have hq4 : q ≤ 4 := by rw [hq, hl0]; exact HROW.out.four p
        have KP := Lib.hid fun (W : World) (hR : RibIs W r F L) => pth_ r F L p hR hok
        unfold NewPs at KP
        rw [← hl0, ← hq] at KP
        have KPU := Lib.hid fun (W : World) (G : Nat → Prop) (S : List Td) (x : Pa) (hx : x.ok) (hS : RibIs W s G S) => put_ s G S p x hS hok hx
        have HL0 := Lib.hid hl0
        have HLQ := Lib.hid hq.symm
        have HPT := Lib.hid (HDN.out.part (p := p) (k := q) (by rw [hq, hl0]; exact Nat.le_refl _))
        have HX := Lib.hid (fun (k : Nat) (x : Pa) (h : l0[k]? = some x) => (HROW.out.ok _ (mem_pathsT.1 (List.mem_of_getElem? (by rw [← hl0]; exact h)))).2)
        clear hp hpm hok hpl hidx htm ho hl0 hq
        obtain ⟨p0, hp0⟩ : ∃ p0, p0 = p := ⟨_, rfl⟩
        rw [← hp0] at HPT HFRE HSUC HL0
        have HP0 := Lib.hid hp0
        clear hp0
        obtain ⟨⟨ps, ph, pl⟩, pb⟩ := p
        unfold pxV at KP KPU
        simp only at KP KPU y0 y1 y2 y3
        have HBN := Lib.hid (Blk.new wo 37 #[.bool ps, .int .u64 (ph : Int), .int .u64 (pl : Int), .int .i64 pb])
        have HFA := Lib.hid ((Fr.refl N0 wo).alloc (.cells #[.bool ps, .int .u64 (ph : Int), .int .u64 (pl : Int), .int .i64 pb] 37))
        go_wp2_with fail
        generalize wo.alloc (.cells #[.bool ps, .int .u64 (ph : Int), .int .u64 (pl : Int), .int .i64 pb] 37) = w5 at *
        obtain ⟨gb, hgb⟩ : ∃ g, g = wo.heap.size := ⟨_, rfl⟩
        rw [← hgb] at HBN ⊢
        have HO5 := Lib.hid (HO.out.addBlk HBN.out HFA.out (Nat.le_of_eq hgb.symm))
        clear hgb h1 h2 h3 h4 hw y0 y1 y2 y3 HBN HFA hmI
        refine (KP.out _ (HO5.out.rib (k := 3) rfl)).mono ?_
        rintro e w6 ⟨v, rfl, A11, c11, rfl, ho, hf, hn⟩
        have HO6 := Lib.hid (HO5.out.addOwn ho hf hn)
        clear ho hf hn HO5
        go_wp2_with fail
        go_loopw [12] (fun vk wr => ∃ (k : Nat) (G : Nat → Prop) (S : List Td), DownK vk k ∧ k ≤ q ∧ Hp w1 wr [ownO w1.heap.size 26 7 A11 q c11 (flat l0), blkO w1.heap.size gb 37 #[.bool ps, .int .u64 (ph : Int), .int .u64 (pl : Int), .int .i64 pb], ownO w1.heap.size 37 4 (some ⟨g8, 0, none⟩) m c8 (flat P), ribO w1.heap.size s G S, ribO w1.heap.size r F L] ∧ Part L S (Turned P tm j) p0 k) (fun vk _ => (intOf vk + 1).toNat)
        case atStart => exact ⟨q, G2, S, DownK.mk rfl, Nat.le_refl _, HO6.out, HPT.out⟩
        case round =>
          obtain ⟨k, G3, S3, hdk, hk, hH, hPt⟩ := hrel
          have H7 := Lib.hid hH
          have HPT7 := Lib.hid hPt
          clear hH hPt HO6 HPT
          rcases hdk with ⟨rfl, rfl⟩ | ⟨k', rfl, rfl⟩
          · go_wp2_with fail
            go_roundw
            case rel => exact ⟨j + 1, G3, S3, by omega, by go_num, H7.out.tail.tail, by rw [← HTM.out]; exact HPT7.out.done HSUC.out⟩
            case measure => (simp [intOf]; try omega)
          · obtain ⟨x, hx⟩ : ∃ x, l0[k']? = some x := ⟨_, List.getElem?_eq_getElem (by have := HLQ.out; omega)⟩
            have hxo := HX.out k' x hx
            have hpt := HPT7.out.put HROW.out HFRE.out (by rw [← HL0.out]; exact hx)
            have HNX := Lib.hid hpt.2
            have hpe := hpt.1
            obtain ⟨g11, rfl⟩ := (H7.out.at (k := 0) rfl : Own wr 26 7 A11 q c11 (flat l0)).some_ (by omega)
            obtain ⟨y0, y1, y2, y3, y4, y5, y6⟩ := (H7.out.at (k := 0) rfl : Own wr 26 7 _ q c11 (flat l0)).e7 HLQ.out hx
            obtain ⟨x0, x1, x2, x3⟩ := (H7.out.at (k := 1) rfl : Blk wr gb 37 _).c4
            obtain ⟨S4, hS4⟩ : ∃ S4, S4 = insT (p0, x) S3 := ⟨_, rfl⟩
            rw [← hS4] at HNX hpe
            have KPX := Lib.hid fun (W : World) (hW : Fr N0 wr W) => KPU.out W G3 S3 x hxo ((H7.out.n0 hW).rib (k := 3) rfl)
            rw [← HP0.out, hpe] at KPX
            clear hx hxo hpt hpe hS4
            obtain ⟨xp, xm, ⟨xs, xh, xl⟩, xo, xa⟩ := x
            unfold paV at KPX
            simp only at KPX y0 y1 y2 y3 y4 y5 y6
            have hkI : (k' : Int) < (q : Int) := by omega
            have hk0 : 0 ≤ (k' : Int) := by omega
            go_wp2_with fail
            go_region_with ((go_at_call 14; (with_reducible refine (KPX.out _ (Fr.refl N0 _).drew).mono ?_); rintro e w8 ⟨rfl, ht⟩; obtain ⟨G4, h8⟩ := (H7.out.n0 (Fr.refl N0 _).drew).ribTo (k := 3) rfl ht; have H8 := Lib.hid h8; clear h8 ht))
            all_goals
              clear y0 y1 y2 y3 y4 y5 y6 x0 x1 x2 x3
              go_wp2_with fail
              go_roundw
              case rel => exact ⟨k', G4, S4, DownK.mk rfl, by omega, H8.out, HNX.out⟩
              case measure => (simp [intOf]; try omega)
      · obtain rfl : j = m := by omega
        obtain rfl : S = L := HDN.out.all HROW.out fun q hq => by
          rw [← HP.out] at hq
          have hl := HM.out
          by_cases hj0 : 0 < j
          · rw [hl]
            exact Turned.all (by rw [← hl]; exact Nat.mod_lt _ hj0) hq
          · have : P = [] := List.length_eq_zero_iff.1 (by omega)
            rw [this] at hq
            cases hq
        have hjI : ¬ (j : Int) < (j : Int) := by omega
        have KC1 := Lib.hid fun (W : World) (hR : RibIs W r F S) => cnt_ r F S hR
        have KC2 := Lib.hid fun (W : World) (hR : RibIs W s G2 S) => cnt_ s G2 S hR
        have KX2 := Lib.hid fun (W : World) (hR : RibIs W s G2 S) => prf_ s G2 S hR
        unfold NewXs at KX2
        rw [← HP.out, ← HM.out] at KX2
        have KSX := Lib.hid fun (W : World) (A A' : Option Addr) (c c' : Nat) (h1 : Own W 37 4 A j c (flat P)) (h2 : Own W 37 4 A' j c' (flat P)) => same_px A A' j c j c' P P h1 HM.out.symm h2 HM.out.symm (by omega)
        rw [decide_eq_true rfl] at KSX
        generalize S.length = z at *
        clear HDN
        go_wp2_with fail
        refine (KC1.out _ (HO.out.rib (k := 2) rfl)).mono ?_
        rintro e w5 ⟨rfl, hf⟩
        have HO5 := Lib.hid (HO.out.n0 hf)
        clear hf HO
        go_wp2_with fail
        refine (KC2.out _ (HO5.out.rib (k := 1) rfl)).mono ?_
        rintro e w6 ⟨rfl, hf⟩
        have HO6 := Lib.hid (HO5.out.n0 hf)
        clear hf HO5
        go_wp2_with fail
        refine (KX2.out _ (HO6.out.rib (k := 1) rfl)).mono ?_
        rintro e w7 ⟨v, rfl, A12, c12, rfl, ho, hf, _⟩
        have HO7 := Lib.hid (HO6.out.n0 hf)
        have HOX := Lib.hid ho
        clear hf ho HO6
        go_wp2_with fail
        refine (KSX.out _ _ _ _ _ (HO7.out.at (k := 0) rfl) HOX.out).mono ?_
        rintro e w8 ⟨rfl, hf⟩
        have HO8 := Lib.hid (HO7.out.n0 hf)
        clear hf HO7 HOX KX2 KC1 KC2 KSX
        have KPR := Lib.hid fun (W : World) (p : Px) (hp : p.ok) (hR : RibIs W r F S) => pth_ r F S p hR hp
        have KPS := Lib.hid fun (W : World) (p : Px) (hp : p.ok) (hR : RibIs W s G2 S) => pth_ s G2 S p hR hp
        unfold NewPs at KPR KPS
        clear hj hjm hjI
        obtain ⟨m, hm⟩ : ∃ m, m = j := ⟨_, rfl⟩
        rw [← hm] at HO8 HM hm90 ⊢
        clear hm
        go_wp2_with fail
        go_loopw [14] (fun vi wr => ∃ i : Nat, i ≤ m ∧ vi = .int .i64 (i : Int) ∧ Fr N0 w8 wr) (fun vi _ => m - (intOf vi).toNat)
        case atStart => exact ⟨0, Nat.zero_le _, rfl, Fr.refl _ _⟩
        case round =>
          obtain ⟨i, hi, rfl, hF⟩ := hrel
          have FW := Lib.hid hF
          clear hF
          by_cases him : i < m
          · have hiI : (i : Int) < (m : Int) := by omega
            obtain ⟨p, hp⟩ : ∃ p, P[i]? = some p := ⟨_, List.getElem?_eq_getElem (by have := HM.out; omega)⟩
            have hok : p.ok := (HROW.out.px (by rw [← HP.out]; exact List.mem_of_getElem? hp)).1
            obtain ⟨g8, rfl⟩ := (HO8.out.at (k := 0) rfl : Own w8 37 4 A8 m c8 (flat P)).some_ (by omega)
            have HL := Lib.hid fun (W : World) (hW : Fr N0 w8 W) => ((HO8.out.n0 hW).at (k := 0) rfl : Own W 37 4 (some ⟨g8, 0, none⟩) m c8 (flat P)).e4 HM.out.symm hp
            obtain ⟨y0, y1, y2, y3⟩ := HL.out _ FW.out
            obtain ⟨l0, hl0⟩ : ∃ l, l = pathsT S p := ⟨_, rfl⟩
            obtain ⟨q, hq⟩ : ∃ q, q = l0.length := ⟨_, rfl⟩
            have hq4 : q ≤ 4 := by rw [hq, hl0]; exact HROW.out.four p
            have K1 := Lib.hid fun (W : World) (hW : Fr N0 w8 W) => KPR.out W p hok ((HO8.out.n0 hW).rib (k := 2) rfl)
            have K2 := Lib.hid fun (W : World) (hW : Fr N0 w8 W) => KPS.out W p hok ((HO8.out.n0 hW).rib (k := 1) rfl)
            rw [← hl0, ← hq] at K1 K2
            have KS := Lib.hid fun (W : World) (A A' : Option Addr) (c c' : Nat) (h1 : Own W 26 7 A q c (flat l0)) (h2 : Own W 26 7 A' q c' (flat l0)) => same_pa A A' q c q c' l0 l0 h1 hq.symm h2 hq.symm (by omega)
            rw [decide_eq_true rfl] at KS
            clear hp hok hl0 hq
            obtain ⟨⟨ps, ph, pl⟩, pb⟩ := p
            unfold pxV at K1 K2
            simp only at K1 K2 y0 y1 y2 y3 HL
            go_wp2_with fail
            have FC := Lib.hid (FW.out.drew)
            go_region_with (first
              | (go_at_call 17; (with_reducible refine (KS.out _ _ _ _ _ HR.out HS.out).mono ?_); rintro e wz ⟨rfl, hf⟩; have FC := Lib.hid (FC.out.trans hf); clear hf)
              | (go_at_call 13; (with_reducible refine (K1.out _ FC.out).mono ?_); rintro e wz ⟨v, rfl, AR, cR, rfl, hoR, hf, _⟩; (try have HS := Lib.hid (HS.out.fr hf fun _ _ => id)); have HR := Lib.hid hoR; have FC := Lib.hid (FC.out.trans hf); clear hf hoR y0 y1 y2 y3; obtain ⟨y0, y1, y2, y3⟩ := HL.out _ FC.out)
              | (go_at_call 13; (with_reducible refine (K2.out _ FC.out).mono ?_); rintro e wz ⟨v, rfl, AS, cS, rfl, hoS, hf, _⟩; (try have HR := Lib.hid (HR.out.fr hf fun _ _ => id)); have HS := Lib.hid hoS; have FC := Lib.hid (FC.out.trans hf); clear hf hoS y0 y1 y2 y3; obtain ⟨y0, y1, y2, y3⟩ := HL.out _ FC.out))
            all_goals
              clear y0 y1 y2 y3
              go_wp2_with fail
              go_roundw
              case rel => exact ⟨i + 1, by omega, by go_num, FC.out⟩
              case measure => (simp [intOf]; try omega)
          · obtain rfl : i = m := by omega
            have hiI : ¬ (i : Int) < (i : Int) := by omega
            go_wp2_with fail
            go_ret
            exact ⟨rfl, HF1.out.trans (HO8.out.fr.trans FW.out)⟩
theorem hist_walk (W : World) (_hS : W.ShapedOpen Tryd.prog) (ht : Dst W) (A : Option Addr) (n c : Nat) (rd : Rd Tryd.prog W 30 [.slice A n c]) (_s : n * Tryd.prog.bytesOf 59 ≤ 140737488351232) (t : Int) (h1 : -9223372036854775808 ≤ t) (h2 : t ≤ 9223372036854775807) :
    Calls Tryd.prog 4 #[.slice A n c, .int .i64 t] W fun e w' => e = .returned (.bool true) ∧ Below W.heap.size W w' := by
  obtain ⟨l, hl, hs, _⟩ := steps_in rd
  exact (hist_any ht A n c l hs hl t h1 h2).mono fun e w' ⟨he, hf⟩ => ⟨he, hf.below (Nat.le_refl _) fun _ _ h => h.elim⟩
end Go.Proofs.YtnklbeigikcfkaaDoor
