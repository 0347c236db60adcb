/- A full rib: ninety prefixes, four paths to one of them. Things side by side in memory: each has blocks of its own. A rib among other things. RibFull: what it answers. -/
import Derived.Test.YtnklbeigikcfkaaDoorRp5
import Derived.Test.YtnklbeigikcfkaaDoorQf
import Derived.Test.YtnklbeigikcfkaaDoorVa
import Derived.Test.YtnklbeigikcfkaaDoorFl
import Derived.Test.YtnklbeigikcfkaaDoorAe
namespace Go.Proofs.YtnklbeigikcfkaaDoor
def fP (i : Nat) : Px := ⟨⟨false, 0, i * 65536⟩, 16⟩
def xB_ (n : Nat) : Pa := ⟨1, 0, byA n, 0, false⟩
def fillT (j : Nat) : List Td := (List.range j).map fun i => (fP i, xB_ 1)
def fillN : Nat → List Td
  | 0 => fillT 90
  | n + 1 => (putT clsA (fillN n) (fP 3) (xB_ (n + 2))).1
set_option maxRecDepth 100000 in
theorem fill_put : ∀ j, j < 90 → putT clsA (fillT j) (fP j) (xB_ 1) = (fillT (j + 1), 0) := by decide +kernel
set_option maxRecDepth 100000 in
theorem fillN_put : ∀ j, j < 3 → putT clsA (fillN j) (fP 3) (xB_ (j + 2)) = (fillN (j + 1), 0) := by decide +kernel
set_option maxRecDepth 100000 in
theorem fill_a : putT clsA (fillN 3) (fP 3) (xB_ 5) = (fillN 3, 141) := by decide +kernel
set_option maxRecDepth 100000 in
theorem fill_len : (fillN 3).length = 93 ∧ (pathsT (fillN 3) (fP 3)).length = 4 ∧ (prefsT (fillN 3)).length = 90 ∧ (pathsT (fillN 3) (fP 3)).any (sameW (xB_ 4)) = true := by decide +kernel
set_option maxRecDepth 100000 in
theorem fill_lo : ∀ u ∈ fillN 3, u.1.ad.lo < 5898240 := by decide +kernel
set_option maxRecDepth 100000 in
theorem fill_may : ∀ m, m < 1000 → mayP clsA ⟨⟨false, 0, (200 + m) * 65536⟩, 16⟩ ⟨2, 0, byA 6, 0, false⟩ = true := by decide +kernel
theorem fill_b {m : Nat} (hm : m < 1000) : putT clsA (fillN 3) ⟨⟨false, 0, (200 + m) * 65536⟩, 16⟩ ⟨2, 0, byA 6, 0, false⟩ = (fillN 3, 141) := by
  have hne : pathsT (fillN 3) ⟨⟨false, 0, (200 + m) * 65536⟩, 16⟩ = [] := by
    rw [List.eq_nil_iff_forall_not_mem]
    intro x hx
    have := fill_lo _ (mem_pathsT.1 hx)
    simp only at this
    omega
  refine put_full (fill_may m hm) (by rw [hne]; rfl) (.inr ⟨hne, ?_⟩)
  rw [fill_len.2.2.1]
  exact Nat.le_refl _
theorem may_metric {cls : Ad → Int} {p : Px} {x : Pa} (h : mayP cls p x = true) {m : Int} (h0 : 0 ≤ m) (h1 : m ≤ 65535) : mayP cls p ⟨x.proto, m, x.via, x.port, x.away⟩ = true := by
  obtain ⟨k1, k2, k3, k4, k5, _⟩ := mayP_facts h
  unfold mayP at h ⊢
  rw [if_neg (by rintro (k | k | k | k | k) <;> first | (rw [k1] at k; cases k) | omega)] at h
  rw [if_neg (by rintro (k | k | k | k | k) <;> first | (rw [k1] at k; cases k) | (simp only at k; omega))]
  exact h
/-- Another path of the same way is not more. -/
theorem put_same {cls : Ad → Int} {L : List Td} (h : RowT cls L) {p : Px} {x : Pa} (hm : mayP cls p x = true) (hw : (pathsT L p).any (sameW x) = true) :
    (putT cls L p x).2 = 0 ∧ (putT cls L p x).1.length = L.length ∧ (pathsT (putT cls L p x).1 p).length = (pathsT L p).length := by
  have hw' : L.any (wayT p x) = true := by rw [any_way]; exact hw
  obtain ⟨i, y, hi, hy⟩ := any_at hw
  unfold putT
  rw [if_neg (by rw [hm]; simp), if_pos hw']
  refine ⟨rfl, ?_, ?_⟩
  · obtain ⟨u, hu, huw⟩ := List.any_eq_true.1 hw'
    obtain ⟨k, hk⟩ := List.getElem?_of_mem hu
    have e := noW_erase h.one hk huw
    unfold noW at e
    have hl := (insT_perm (p, x) (L.filter fun u => !wayT p x u)).length_eq
    have hkl := (List.getElem?_eq_some_iff.1 hk).1
    simp only [List.length_cons] at hl
    simp only
    rw [hl, e, List.length_eraseIdx, if_pos hkl]
    omega
  · have hl := (paths_ins (L.filter fun u => !wayT p x u) p x).length_eq
    have e := paths_noW L p x
    unfold noW at e
    simp only [List.length_cons] at hl
    simp only
    rw [hl, e, filter_way (paths_one h.one p) hi hy, List.length_eraseIdx, if_pos (List.getElem?_eq_some_iff.1 hi).1]
    have := (List.getElem?_eq_some_iff.1 hi).1
    omega
theorem fill_c {m : Int} (h0 : 0 ≤ m) (h1 : m ≤ 65535) (hR : RowT clsA (fillN 3)) : ∃ L, putT clsA (fillN 3) (fP 3) ⟨1, m, byA 4, 0, false⟩ = (L, 0) ∧ L.length = 93 ∧ (pathsT L (fP 3)).length = 4 := by
  have hm : mayP clsA (fP 3) ⟨1, m, byA 4, 0, false⟩ = true := may_metric (x := xB_ 4) (by decide +kernel) h0 h1
  obtain ⟨k1, k2, k3⟩ := put_same hR hm fill_len.2.2.2
  exact ⟨(putT clsA (fillN 3) (fP 3) ⟨1, m, byA 4, 0, false⟩).1, Prod.ext rfl k1, k2.trans fill_len.1, k3.trans fill_len.2.1⟩
theorem fill_d {L : List Td} (hR : RowT clsA L) {p : Px} (h4 : (pathsT L p).length = 4) (x : Pa) : ∃ L' e, putT clsA L p x = (L', e) ∧ L'.length = L.length ∧ (e = 0 ∨ e = 140 ∨ e = 141) := by
  cases hm : mayP clsA p x with
  | false => exact ⟨_, _, put_bad hm, rfl, .inr (.inl rfl)⟩
  | true =>
    cases hw : (pathsT L p).any (sameW x) with
    | false => exact ⟨_, _, put_full hm hw (.inl (by omega)), rfl, .inr (.inr rfl)⟩
    | true =>
      obtain ⟨k1, k2, _⟩ := put_same hR hm hw
      exact ⟨(putT clsA L p x).1, 0, Prod.ext rfl k1, k2, .inl rfl⟩
end Go.Proofs.YtnklbeigikcfkaaDoor
namespace Go.Proofs.YtnklbeigikcfkaaDoor
open Go.Proofs Go.RowKit
/-- Something in memory: the blocks that it has, what is said of it; it stays as long as none of its blocks is turned (nor one that was there at first). -/
structure Ent (b : Nat) where
  fp : Nat → Prop
  ok : World → Prop
  st : ∀ {W W' : World} {S : Nat → Prop}, ok W → Fr S W W' → (∀ i, S i → b ≤ i ∧ ¬ fp i) → ok W'
  lt : ∀ {W : World}, ok W → ∀ i, fp i → i < W.heap.size
/-- These things stand side by side in memory laid since w. -/
structure Hp (w wr : World) (l : List (Ent w.heap.size)) : Prop where
  fr : Fr N0 w wr
  ok : ∀ o ∈ l, o.ok wr
  ge : ∀ o ∈ l, ∀ i, o.fp i → w.heap.size ≤ i
  ap : l.Pairwise fun o p => ∀ i, o.fp i → ¬ p.fp i
section
variable {w wr w' : World} {l : List (Ent w.heap.size)}
theorem Hp.start (h : Fr N0 w wr) : Hp w wr [] := ⟨h, by simp, by simp, .nil⟩
theorem Hp.n0 (h : Hp w wr l) (hf : Fr N0 wr w') : Hp w w' l :=
  ⟨h.fr.trans hf, fun o ho => o.st (h.ok o ho) hf fun _ hi => hi.elim, h.ge, h.ap⟩
theorem Hp.add (h : Hp w wr l) (hf : Fr N0 wr w') (o : Ent w.heap.size) (ho : o.ok w') (hn : ∀ i, o.fp i → wr.heap.size ≤ i) : Hp w w' (o :: l) where
  fr := h.fr.trans hf
  ok p hp := by
    rcases List.mem_cons.1 hp with rfl | hp
    · exact ho
    · exact (h.n0 hf).ok p hp
  ge p hp := by
    rcases List.mem_cons.1 hp with rfl | hp
    · exact fun i hi => Nat.le_trans h.fr.size (hn i hi)
    · exact h.ge p hp
  ap := List.pairwise_cons.2 ⟨fun p hp i hi hpi => by
    have h1 := hn i hi
    have h2 := p.lt (h.ok p hp) i hpi
    omega, h.ap⟩
theorem Hp.at (h : Hp w wr l) {k : Nat} {o : Ent w.heap.size} (hk : l[k]? = some o) : o.ok wr := h.ok o (List.mem_of_getElem? hk)
theorem Hp.sub {r : List (Ent w.heap.size)} (h : Hp w wr l) (hs : r.Sublist l) : Hp w wr r :=
  ⟨h.fr, fun o ho => h.ok o (hs.subset ho), fun o ho => h.ge o (hs.subset ho), h.ap.sublist hs⟩
theorem Hp.tail {o : Ent w.heap.size} (h : Hp w wr (o :: l)) : Hp w wr l := h.sub (List.sublist_cons_self _ _)
theorem Hp.swap {o p : Ent w.heap.size} (h : Hp w wr (o :: p :: l)) : Hp w wr (p :: o :: l) :=
  ⟨h.fr, fun q hq => h.ok q (by simp only [List.mem_cons] at hq ⊢; rcases hq with h | h | h <;> simp [h]), fun q hq => h.ge q (by simp only [List.mem_cons] at hq ⊢; rcases hq with h | h | h <;> simp [h]), by
    obtain ⟨h1, h2⟩ := List.pairwise_cons.1 h.ap
    obtain ⟨h3, h4⟩ := List.pairwise_cons.1 h2
    refine List.pairwise_cons.2 ⟨fun q hq i hi hqi => ?_, List.pairwise_cons.2 ⟨fun q hq => h1 q (List.mem_cons_of_mem _ hq), h4⟩⟩
    rcases List.mem_cons.1 hq with rfl | hq
    · exact h1 p List.mem_cons_self i hqi hi
    · exact h3 q hq i hi hqi⟩
/-- A step of one of them. -/
theorem Hp.upd (h : Hp w wr l) {k : Nat} {o o' : Ent w.heap.size} (hk : l[k]? = some o) (hf : Fr o.fp wr w') (ho : o'.ok w') (hn : ∀ i, o'.fp i → o.fp i ∨ wr.heap.size ≤ i) : Hp w w' (l.set k o') := by
  have hom := List.mem_of_getElem? hk
  have hkl := (List.getElem?_eq_some_iff.1 hk).1
  have hap := h.ap
  rw [List.pairwise_iff_getElem] at hap
  have hko : l[k] = o := (List.getElem?_eq_some_iff.1 hk).2
  have far : ∀ j (hj : j < l.length), j ≠ k → ∀ i, o.fp i → ¬ l[j].fp i := by
    intro j hj hjk i hi hji
    rcases Nat.lt_or_ge j k with hl | hl
    · exact hap j k hj hkl hl i hji (by rw [hko]; exact hi)
    · exact hap k j hkl hj (by omega) i (by rw [hko]; exact hi) hji
  have far' : ∀ j (hj : j < l.length), j ≠ k → ∀ i, o'.fp i → ¬ l[j].fp i := by
    intro j hj hjk i hi hji
    rcases hn i hi with h1 | h1
    · exact far j hj hjk i h1 hji
    · have := l[j].lt (h.ok _ (List.getElem_mem hj)) i hji
      omega
  refine ⟨h.fr.step hf fun i hi => .inr (h.ge o hom i hi), ?_, ?_, ?_⟩
  · intro p hp
    obtain ⟨j, hj, rfl⟩ := List.getElem_of_mem hp
    rw [List.getElem_set]
    split
    · exact ho
    · rename_i hjk
      rw [List.length_set] at hj
      exact (l[j]).st (h.ok _ (List.getElem_mem hj)) hf fun i hi => ⟨h.ge o hom i hi, far j hj (fun e => hjk e.symm) i hi⟩
  · intro p hp i hi
    obtain ⟨j, hj, rfl⟩ := List.getElem_of_mem hp
    rw [List.getElem_set] at hi
    split at hi
    · rcases hn i hi with h1 | h1
      · exact h.ge o hom i h1
      · exact Nat.le_trans h.fr.size h1
    · rw [List.length_set] at hj
      exact h.ge _ (List.getElem_mem hj) i hi
  · rw [List.pairwise_iff_getElem]
    intro a b ha hb hab i hai hbi
    rw [List.length_set] at ha hb
    rw [List.getElem_set] at hai hbi
    by_cases h1 : k = a
    · rw [if_pos h1] at hai
      rw [if_neg (by omega)] at hbi
      exact far' b hb (by omega) i hai hbi
    · rw [if_neg h1] at hai
      by_cases h2 : k = b
      · rw [if_pos h2] at hbi
        exact far' a ha (by omega) i hbi hai
      · rw [if_neg h2] at hbi
        exact hap a b ha hb hab i hai hbi
end
/-- A block known whole. -/
def blkO (b g : Nat) (t : TypeId) (cs : Array Value) : Ent b where
  fp i := i = g
  ok W := Blk W g t cs
  st h hf hS := h.fr hf fun k => (hS _ k).2 rfl
  lt h _ hi := hi ▸ h.lt
/-- A slice of the call's own. -/
def ownO (b : Nat) (e : TypeId) (k : Nat) (A : Option Addr) (n c : Nat) (xs : List Value) : Ent b where
  fp i := A = some ⟨i, 0, none⟩
  ok W := Own W e k A n c xs
  st h hf hS := h.fr hf fun _ e k => (hS _ k).2 e
  lt h _ hi := h.lt hi
/-- Nothing. -/
def nopO (b : Nat) : Ent b := ⟨fun _ => False, fun _ => True, fun _ _ _ => trivial, fun _ _ h => h.elim⟩
end Go.Proofs.YtnklbeigikcfkaaDoor
namespace Go.Proofs.YtnklbeigikcfkaaDoor
open Go.Proofs Go.RowKit
def ribO (b r : Nat) (F : Nat → Prop) (L : List Td) : Ent b where
  fp := F
  ok W := RibIs W r F L ∧ 0 < b
  st h hf hS := ⟨h.1.fr hf (fun _ hi hs => (hS _ hs).2 hi) (fun hs => by have := (hS _ hs).1; have := h.2; omega), h.2⟩
  lt h _ hi := h.1.lt _ hi
section
variable {w wr w' : World} {l : List (Ent w.heap.size)}
theorem Hp.ribTo (h : Hp w wr l) {k r : Nat} {F : Nat → Prop} {L L' : List Td} (hk : l[k]? = some (ribO _ r F L)) (ht : RibTo wr r F L' w') : ∃ F', Hp w w' (l.set k (ribO _ r F' L')) := by
  obtain ⟨F', h1, h2, h3⟩ := ht
  exact ⟨F', h.upd hk h3 (o' := ribO _ r F' L') ⟨h1, (h.at hk).2⟩ h2⟩
theorem Hp.rib (h : Hp w wr l) {k r : Nat} {F : Nat → Prop} {L : List Td} (hk : l[k]? = some (ribO _ r F L)) : RibIs wr r F L := (h.at hk).1
theorem Hp.addRib (h : Hp w wr l) (hd : 0 < w.heap.size) {r : Nat} {F : Nat → Prop} {L : List Td} (hR : RibIs w' r F L) (hf : Fr N0 wr w') (hn : ∀ i, F i → wr.heap.size ≤ i) : Hp w w' (ribO _ r F L :: l) :=
  h.add hf (ribO _ r F L) ⟨hR, hd⟩ hn
theorem Hp.addOwn (h : Hp w wr l) {e : TypeId} {k : Nat} {A : Option Addr} {n c : Nat} {xs : List Value} (ho : Own w' e k A n c xs) (hf : Fr N0 wr w') (hn : ∀ g, A = some ⟨g, 0, none⟩ → wr.heap.size ≤ g) : Hp w w' (ownO _ e k A n c xs :: l) :=
  h.add hf (ownO _ e k A n c xs) ho fun i hi => hn i hi
theorem Hp.addBlk (h : Hp w wr l) {g : Nat} {t : TypeId} {cs : Array Value} (hb : Blk w' g t cs) (hf : Fr N0 wr w') (hn : wr.heap.size ≤ g) : Hp w w' (blkO _ g t cs :: l) :=
  h.add hf (blkO _ g t cs) hb fun i hi => by rw [show i = g from hi]; exact hn
end
/-- All paths of some prefixes. -/
structure Done (L S : List Td) (D : Px → Prop) : Prop where
  row : RowT clsA S
  mem : ∀ u, u ∈ S ↔ u ∈ L ∧ D u.1
end Go.Proofs.YtnklbeigikcfkaaDoor
namespace Go.Proofs.YtnklbeigikcfkaaDoor
open Go.Proofs Go.Shelf Go.RowKit
theorem byV {W : World} (n : Nat) (a v : Int) (ha : a = (n : Int)) (hv : v = ((168361984 + n : Nat) : Int)) (hn : n < 1000) :
    Calls Tryd.prog 20 #[.int .u64 a] W fun e w' => e = .returned (.agg #[.bool false, .int .u64 0, .int .u64 v]) ∧ Fr N0 W w' := by
  subst ha hv
  exact by_ n hn
theorem putB {W : World} {r : Nat} {F : Nat → Prop} {L L' : List Td} {e : Int} (lon n : Nat) (lo v pr me : Int) (hlo : lo = (lon : Int)) (hv : v = ((168361984 + n : Nat) : Int)) (hl : lon < 18446744073709551616) (hn : n < 1000) (hpr : 0 ≤ pr ∧ pr ≤ 4) (hme : 0 ≤ me ∧ me ≤ 65535)
    (hput : putT clsA L ⟨⟨false, 0, lon⟩, 16⟩ ⟨pr, me, byA n, 0, false⟩ = (L', e)) (hR : RibIs W r F L) :
    Calls Tryd.prog 14 #[.pointer (some ⟨r, 0, none⟩), .agg #[.bool false, .int .u64 0, .int .u64 lo, .int .i64 16], .agg #[.int .i64 pr, .int .i64 me, .bool false, .int .u64 0, .int .u64 v, .int .i64 0, .bool false]] W
      fun e' w' => e' = .returned (.int .i64 e) ∧ RibTo W r F L' w' := by
  subst hlo hv
  have h := put_ r F L ⟨⟨false, 0, lon⟩, 16⟩ ⟨pr, me, byA n, 0, false⟩ hR ⟨⟨by show (0 : Nat) < _; omega, hl⟩, by show (-9223372036854775808 : Int) ≤ 16; omega, by show (16 : Int) ≤ _; omega⟩ ⟨⟨by show _ ≤ pr; omega, by show pr ≤ _; omega⟩, ⟨by show _ ≤ me; omega, by show me ≤ _; omega⟩, okBy hn, ⟨by show (-9223372036854775808 : Int) ≤ 0; omega, by show (0 : Int) ≤ _; omega⟩⟩
  rw [hput] at h
  exact h
set_option maxHeartbeats 25600000 in
set_option maxRecDepth 100000 in
theorem full_any {w : World} (hd : Dst w) (x : Pa) (hx : x.ok) (me mo : Int) (hme1 : -9223372036854775808 ≤ me) (hme2 : me ≤ 9223372036854775807) (hmo1 : -9223372036854775808 ≤ mo) (hmo2 : mo ≤ 9223372036854775807) :
    Calls Tryd.prog 6 #[paV x, .int .i64 me, .int .i64 mo] w fun e w' => e = .returned (.bool true) ∧ Fr N0 w w' := by
  have KA := Lib.hid fun (W : World) (hW : Fr N0 w W) => awake15 (hd.n0 hW)
  have KN := Lib.hid fun (W : World) (hW : Fr N0 w W) => rnew (w := W) (hd.n0 hW)
  have HDW := Lib.hid hd.lt
  obtain ⟨t, ht⟩ : ∃ t : Nat, (me < 0 → -(me + 1) = (t : Int)) ∧ (0 ≤ me → me = (t : Int)) := ⟨if me < 0 then (-(me + 1)).toNat else me.toNat, fun h => by rw [if_pos h]; omega, fun h => by rw [if_neg (by omega)]; omega⟩
  obtain ⟨u, hu⟩ : ∃ u : Nat, (mo < 0 → -(mo + 1) = (u : Int)) ∧ (0 ≤ mo → mo = (u : Int)) := ⟨if mo < 0 then (-(mo + 1)).toNat else mo.toNat, fun h => by rw [if_pos h]; omega, fun h => by rw [if_neg (by omega)]; omega⟩
  have HT := Lib.hid ht
  have HU := Lib.hid hu
  have KPX := Lib.hid fun (W : World) (r : Nat) (F : Nat → Prop) (L : List Td) (p : Px) (hp : p.ok) (hR : RibIs W r F L) => put_ r F L p x hR hp hx
  obtain ⟨X, hX⟩ : ∃ X, X = x := ⟨_, rfl⟩
  rw [← hX] at KPX
  have HX := Lib.hid (show paV X = paV x by rw [hX])
  clear hd ht hu hx hX
  obtain ⟨xp, xm, ⟨xs, xh, xl⟩, xo, xa⟩ := x
  unfold paV at *
  simp only at *
  go_enter Tryd.func6, Tryd.ntmps6
  go_wp2_with fail
  have HB := Lib.hid (Blk.new w 26 #[.int .i64 xp, .int .i64 xm, .bool xs, .int .u64 (xh : Int), .int .u64 (xl : Int), .int .i64 xo, .bool xa])
  have HFA := Lib.hid ((Fr.refl N0 w).alloc (.cells #[.int .i64 xp, .int .i64 xm, .bool xs, .int .u64 (xh : Int), .int .u64 (xl : Int), .int .i64 xo, .bool xa] 26))
  generalize w.alloc (.cells #[.int .i64 xp, .int .i64 xm, .bool xs, .int .u64 (xh : Int), .int .u64 (xl : Int), .int .i64 xo, .bool xa] 26) = w1 at *
  obtain ⟨gx, hgx⟩ : ∃ g, g = w.heap.size := ⟨_, rfl⟩
  rw [← hgx] at HB ⊢
  have H1 := Lib.hid ((Hp.start (Fr.refl N0 w)).addBlk HB.out HFA.out (Nat.le_of_eq hgx.symm))
  clear hgx HB HFA
  refine (KA.out _ H1.out.fr).mono ?_
  rintro e w2 ⟨rfl, hf⟩
  have H2 := Lib.hid (H1.out.n0 hf)
  clear hf H1 KA
  go_wp2_with fail
  refine (KN.out _ H2.out.fr).mono ?_
  rintro e w3 ⟨r, F, rfl, hR, hf, hF⟩
  have H3 := Lib.hid (H2.out.addRib HDW.out hR hf hF)
  clear hR hf hF H2 KN
  go_wp2_with fail
  go_loopw [9] (fun vi wr => ∃ (j : Nat) (F : Nat → Prop), j ≤ 90 ∧ vi = .int .i64 (j : Int) ∧ Hp w wr [ribO w.heap.size r F (fillT j), blkO w.heap.size gx 26 #[.int .i64 xp, .int .i64 xm, .bool xs, .int .u64 (xh : Int), .int .u64 (xl : Int), .int .i64 xo, .bool xa]]) (fun vi _ => 91 - (intOf vi).toNat)
  case atStart => exact ⟨0, F, by omega, rfl, H3.out⟩
  case round =>
    obtain ⟨j, F2, hj, rfl, hH⟩ := hrel
    have H4 := Lib.hid hH
    clear hH H3
    by_cases hj90 : j < 90
    · have hjI : (j : Int) < 90 := by omega
      go_wp2_with fail
      refine (byV 1 1 168361985 rfl rfl (by omega)).mono ?_
      rintro e w4 ⟨rfl, hf⟩
      have H5 := Lib.hid (H4.out.n0 hf)
      clear hf H4
      go_wp2_with fail
      refine (putB (j * 65536) 1 ((j : Int) * 65536) 168361985 1 0 (by omega) rfl (by omega) (by omega) (by omega) (by omega) (fill_put j hj90) (H5.out.rib (k := 0) rfl)).mono ?_
      rintro e w5 ⟨rfl, ht⟩
      obtain ⟨F5, h5⟩ := H5.out.ribTo (k := 0) rfl ht
      have H6 := Lib.hid h5
      clear ht h5 H5
      go_wp2_with fail
      go_roundw
      case rel => exact ⟨j + 1, F5, by omega, by go_num, H6.out⟩
      case measure => (simp [intOf]; try omega)
    · have hj90I : ¬ (j : Int) < 90 := by omega
      have H4 := Lib.hid (show Hp w wr [ribO w.heap.size r F2 (fillT 90), blkO w.heap.size gx 26 #[.int .i64 xp, .int .i64 xm, .bool xs, .int .u64 (xh : Int), .int .u64 (xl : Int), .int .i64 xo, .bool xa]] from (show j = 90 by omega) ▸ H4.out)
      clear hj hj90
      have HZ := Lib.hid (Blk.new wr 37 #[.bool false, .int .u64 0, .int .u64 196608, .int .i64 16])
      have HFA := Lib.hid ((Fr.refl N0 wr).alloc (.cells #[.bool false, .int .u64 0, .int .u64 196608, .int .i64 16] 37))
      go_wp2_with fail
      generalize wr.alloc (.cells #[.bool false, .int .u64 0, .int .u64 196608, .int .i64 16] 37) = w4 at *
      obtain ⟨gp, hgp⟩ : ∃ g, g = wr.heap.size := ⟨_, rfl⟩
      rw [← hgp] at HZ ⊢
      have H5 := Lib.hid (H4.out.addBlk HZ.out HFA.out (Nat.le_of_eq hgp.symm))
      clear hgp HZ HFA H4
      go_loopw [12] (fun vi wr => ∃ (k : Nat) (F : Nat → Prop), k ≤ 3 ∧ vi = .int .i64 ((k : Int) + 2) ∧ Hp w wr [blkO w.heap.size gp 37 #[.bool false, .int .u64 0, .int .u64 196608, .int .i64 16], ribO w.heap.size r F (fillN k), blkO w.heap.size gx 26 #[.int .i64 xp, .int .i64 xm, .bool xs, .int .u64 (xh : Int), .int .u64 (xl : Int), .int .i64 xo, .bool xa]]) (fun vi _ => 6 - (intOf vi).toNat)
      case atStart => exact ⟨0, F2, by omega, rfl, H5.out⟩
      case round =>
        obtain ⟨k, F3, hk, rfl, hH⟩ := hrel
        have H6 := Lib.hid hH
        clear hH H5
        by_cases hk3 : k < 3
        · have hkI : (k : Int) + 2 < 5 := by omega
          obtain ⟨x0, x1, x2, x3⟩ := (H6.out.at (k := 0) rfl : Blk wr gp 37 _).c4
          obtain ⟨v, hv⟩ : ∃ v : Int, v = ((168361984 + (k + 2) : Nat) : Int) := ⟨_, rfl⟩
          have HV := Lib.hid hv
          clear hv
          have hwu : IntKind.u64.wrap ((k : Int) + 2) = (k : Int) + 2 := IntWalk.u64_in _ (by omega)
          have H7 := Lib.hid (H6.out.n0 (Fr.refl N0 wr).drew)
          go_wp2_with fail
          go_region_with (first
            | (go_at_call 20; refine (byV (k + 2) _ v (by omega) HV.out (by omega)).mono ?_; rintro e w5 ⟨rfl, hf⟩; have H7 := Lib.hid (H7.out.n0 hf); clear hf x0 x1 x2 x3; obtain ⟨x0, x1, x2, x3⟩ := (H7.out.at (k := 0) rfl : Blk _ gp 37 _).c4)
            | (go_at_call 14; refine (putB 196608 (k + 2) 196608 v 1 0 rfl HV.out (by omega) (by omega) (by omega) (by omega) (fillN_put k hk3) (H7.out.rib (k := 1) rfl)).mono ?_; rintro e w6 ⟨rfl, ht⟩; obtain ⟨F6, h6⟩ := H7.out.ribTo (k := 1) rfl ht; have H8 := Lib.hid h6; clear h6 ht))
          all_goals
            clear x0 x1 x2 x3
            go_wp2_with fail
            go_roundw
            case rel => exact ⟨k + 1, F6, by omega, by go_num, H8.out⟩
            case measure => (simp [intOf]; try omega)
        · have hk5 : ¬ ((k : Int) + 2 < 5) := by omega
          have H6 := Lib.hid (show Hp w wr [blkO w.heap.size gp 37 #[.bool false, .int .u64 0, .int .u64 196608, .int .i64 16], ribO w.heap.size r F3 (fillN 3), blkO w.heap.size gx 26 #[.int .i64 xp, .int .i64 xm, .bool xs, .int .u64 (xh : Int), .int .u64 (xl : Int), .int .i64 xo, .bool xa]] from (show k = 3 by omega) ▸ H6.out)
          clear hk hk3
          go_upto_if 58 with fail
          go_cut [1] (fun v wx => v = .int .i64 (t : Int) ∧ Hp w wx [blkO w.heap.size gp 37 #[.bool false, .int .u64 0, .int .u64 196608, .int .i64 16], ribO w.heap.size r F3 (fillN 3), blkO w.heap.size gx 26 #[.int .i64 xp, .int .i64 xm, .bool xs, .int .u64 (xh : Int), .int .u64 (xl : Int), .int .i64 xo, .bool xa]])
          case first =>
            have h1 := HT.out.1
            have h2 := HT.out.2
            by_cases hneg : me < 0
            · have hw1 : IntKind.i64.wrap (me + 1) = me + 1 := IntWalk.i64_in _ (by omega)
              have hw2 : IntKind.i64.wrap (-(me + 1)) = -(me + 1) := IntWalk.i64_in _ (by omega)
              have HQ := Lib.hid (h1 hneg)
              clear h1 h2
              go_wp2_with fail
              go_meet
              exact ⟨by rw [← HQ.out], H6.out⟩
            · have HQ := Lib.hid (h2 (by omega))
              clear h1 h2
              go_wp2_with fail
              go_meet
              exact ⟨by rw [← HQ.out], H6.out⟩
          case rest =>
           obtain ⟨rfl, hcx⟩ := hcut
           have H6 := Lib.hid hcx
           clear hcx
           go_upto_if 63 with fail
           go_cut [2] (fun v wx => v = .int .i64 (u : Int) ∧ Hp w wx [blkO w.heap.size gp 37 #[.bool false, .int .u64 0, .int .u64 196608, .int .i64 16], ribO w.heap.size r F3 (fillN 3), blkO w.heap.size gx 26 #[.int .i64 xp, .int .i64 xm, .bool xs, .int .u64 (xh : Int), .int .u64 (xl : Int), .int .i64 xo, .bool xa]])
           case first =>
             have h1 := HU.out.1
             have h2 := HU.out.2
             by_cases hneg : mo < 0
             · have hw1 : IntKind.i64.wrap (mo + 1) = mo + 1 := IntWalk.i64_in _ (by omega)
               have hw2 : IntKind.i64.wrap (-(mo + 1)) = -(mo + 1) := IntWalk.i64_in _ (by omega)
               have HQ := Lib.hid (h1 hneg)
               clear h1 h2
               go_wp2_with fail
               go_meet
               exact ⟨by rw [← HQ.out], H6.out⟩
             · have HQ := Lib.hid (h2 (by omega))
               clear h1 h2
               go_wp2_with fail
               go_meet
               exact ⟨by rw [← HQ.out], H6.out⟩
           case rest =>
            obtain ⟨rfl, hcx⟩ := hcut
            have H6 := Lib.hid hcx
            clear hcx
            obtain ⟨mm, hmm⟩ : ∃ mm, mm = u % 1000 := ⟨_, rfl⟩
            obtain ⟨tm, htm⟩ : ∃ tm, tm = t % 65536 := ⟨_, rfl⟩
            have hml : mm < 1000 := by omega
            have htl : tm < 65536 := by omega
            have q1 : (u : Int) % 1000 = (mm : Int) := by omega
            have q2 : (u : Int).tmod 1000 = (mm : Int) := by rw [Int.tmod_eq_emod_of_nonneg (by omega)]; exact q1
            have q3 : (t : Int) % 65536 = (tm : Int) := by omega
            have q4 : (t : Int).tmod 65536 = (tm : Int) := by rw [Int.tmod_eq_emod_of_nonneg (by omega)]; exact q3
            have Q1 := Lib.hid q1
            have Q2 := Lib.hid q2
            have Q3 := Lib.hid q3
            have Q4 := Lib.hid q4
            clear hmm htm q1 q2 q3 q4 HT HU hme1 hme2 hmo1 hmo2
            obtain ⟨x0, x1, x2, x3⟩ := (H6.out.at (k := 0) rfl : Blk _ gp 37 _).c4
            have H7 := Lib.hid (H6.out.n0 (Fr.refl N0 _).drew)
            clear H6
            go_wp2_with fail
            go_region_with (first
              | (go_at_call 20; refine (byV 5 5 168361989 rfl rfl (by omega)).mono ?_; rintro e w5 ⟨rfl, hf⟩; have H7 := Lib.hid (H7.out.n0 hf); clear hf x0 x1 x2 x3; obtain ⟨x0, x1, x2, x3⟩ := (H7.out.at (k := 0) rfl : Blk _ gp 37 _).c4)
              | (go_at_call 14; refine (putB 196608 5 196608 168361989 1 0 rfl rfl (by omega) (by omega) (by omega) (by omega) fill_a (H7.out.rib (k := 1) rfl)).mono ?_; rintro e w6 ⟨rfl, ht⟩; obtain ⟨F6, h6⟩ := H7.out.ribTo (k := 1) rfl ht; have H8 := Lib.hid h6; clear h6 ht))
            all_goals
              clear x0 x1 x2 x3 H7
              have q1 := Q1.out
              have q2 := Q2.out
              go_wp2_with fail
              refine (byV 6 6 168361990 rfl rfl (by omega)).mono ?_
              rintro e w7 ⟨rfl, hf⟩
              have H9 := Lib.hid (H8.out.n0 hf)
              clear hf H8
              go_wp2_with fail
              refine (putB ((200 + mm) * 65536) 6 ((200 + (mm : Int)) * 65536) 168361990 2 0 (by omega) rfl (by omega) (by omega) (by omega) (by omega) (fill_b hml) (H9.out.rib (k := 1) rfl)).mono ?_
              rintro e w8 ⟨rfl, ht⟩
              obtain ⟨F8, h8⟩ := H9.out.ribTo (k := 1) rfl ht
              have H10 := Lib.hid h8
              clear h8 ht H9 q1 q2
              have hc := cnt_ r F8 (fillN 3) (H10.out.rib (k := 1) rfl)
              rw [fill_len.1] at hc
              go_wp2_with fail
              refine hc.mono ?_
              rintro e w9 ⟨rfl, hf⟩
              have H11 := Lib.hid (H10.out.n0 hf)
              obtain ⟨L4, hp4, hl4, hp44⟩ := fill_c (m := (tm : Int)) (by omega) (by omega) (H10.out.rib (k := 1) rfl).row
              have HP4 := Lib.hid hp4
              have HL4 := Lib.hid (And.intro hl4 hp44)
              clear hf hc H10 hp4 hl4 hp44
              obtain ⟨x0, x1, x2, x3⟩ := (H11.out.at (k := 0) rfl : Blk _ gp 37 _).c4
              have H12 := Lib.hid (H11.out.n0 (Fr.refl N0 _).drew)
              have q3 := Q3.out
              have q4 := Q4.out
              clear H11
              go_wp2_with fail
              go_region_with (first
                | (go_at_call 20; refine (byV 4 4 168361988 rfl rfl (by omega)).mono ?_; rintro e w10 ⟨rfl, hf⟩; have H12 := Lib.hid (H12.out.n0 hf); clear hf x0 x1 x2 x3; obtain ⟨x0, x1, x2, x3⟩ := (H12.out.at (k := 0) rfl : Blk _ gp 37 _).c4)
                | (go_at_call 14; refine (putB 196608 4 196608 168361988 1 (tm : Int) rfl rfl (by omega) (by omega) (by omega) (by omega) HP4.out (H12.out.rib (k := 1) rfl)).mono ?_; rintro e w11 ⟨rfl, ht⟩; obtain ⟨F11, h11⟩ := H12.out.ribTo (k := 1) rfl ht; have H13 := Lib.hid h11; clear h11 ht))
              all_goals
                clear x0 x1 x2 x3 q3 q4 H12
                obtain ⟨L5, d, hp5, hl5, hd⟩ := fill_d (H13.out.rib (k := 1) rfl).row HL4.out.2 X
                have hk := KPX.out _ r F11 L4 (fP 3) ⟨⟨by decide, by decide⟩, by decide, by decide⟩ (H13.out.rib (k := 1) rfl)
                rw [hp5, HX.out] at hk
                have HL5 := Lib.hid (show L5.length = 93 by rw [hl5, HL4.out.1])
                have HD := Lib.hid hd
                unfold pxV fP at hk
                simp only at hk
                obtain ⟨x0, x1, x2, x3⟩ := (H13.out.at (k := 0) rfl : Blk _ gp 37 _).c4
                obtain ⟨z0, z1, z2, z3, z4, z5, z6⟩ := (H13.out.at (k := 2) rfl : Blk _ gx 26 _).c7
                clear hp5 hl5 hd
                go_wp2_with fail
                refine hk.mono ?_
                rintro e w12 ⟨rfl, ht⟩
                obtain ⟨F12, h12⟩ := H13.out.ribTo (k := 1) rfl ht
                have H14 := Lib.hid h12
                have kc := cnt_ r F12 L5 (H14.out.rib (k := 1) rfl)
                rw [HL5.out] at kc
                clear x0 x1 x2 x3 z0 z1 z2 z3 z4 z5 z6 hk ht h12 H13
                have hd := HD.out
                clear HD
                rcases hd with rfl | rfl | rfl
                all_goals
                  go_wp2_with fail
                  refine kc.mono ?_
                  rintro e w13 ⟨rfl, hf⟩
                  have HF := Lib.hid (H14.out.fr.trans hf)
                  clear hf kc
                  go_wp2_with fail
                  go_ret
                  exact ⟨rfl, HF.out⟩
theorem pa_arr2 {A : Array Value} {x : Pa} (h : A.toList = Pa.cs x) : Value.agg A = paV x := by
  rw [← Array.toArray_toList (xs := A), h]
  rfl
theorem full_walk (W : World) (_hS : W.ShapedOpen Tryd.prog) (ht : Dst W) (A : Array Value) (ra : Rd Tryd.prog W 26 A.toList) (me : Int) (h1 : -9223372036854775808 ≤ me) (h2 : me ≤ 9223372036854775807) (mo : Int) (h3 : -9223372036854775808 ≤ mo) (h4 : mo ≤ 9223372036854775807) :
    Calls Tryd.prog 6 #[.agg A, .int .i64 me, .int .i64 mo] W fun e w' => e = .returned (.bool true) ∧ Below W.heap.size W w' := by
  obtain ⟨p, ep, hp⟩ := rd_pa ra
  rw [pa_arr2 ep]
  exact (full_any ht p hp me mo h1 h2 h3 h4).mono fun e w' ⟨he, hf⟩ => ⟨he, hf.below (Nat.le_refl _) fun _ _ h => h.elim⟩
end Go.Proofs.YtnklbeigikcfkaaDoor
