/- Things side by side in memory: each has blocks of its own. A rib among other things. The document's rib among other things. -/
import Derived.Test.YtnklbeigikcfkaaGreatDoorVa
import Derived.Test.YtnklbeigikcfkaaGreatDoorFl
import Derived.Test.YtnklbeigikcfkaaGreatDoorGg
import Derived.Test.YtnklbeigikcfkaaGreatDoorGj
namespace Go.Proofs.YtnklbeigikcfkaaGreatDoor
open Go.Proofs Go.RowKit
/-- Something in memory: the blocks that it has, what is said of it; it stays as long as none of its blocks is turned (nor one that was there at first). -/
structure Ent (b : Nat) where
  fp : Nat → Prop
  ok : World → Prop
  st : ∀ {W W' : World} {S : Nat → Prop}, ok W → Fr S W W' → (∀ i, S i → b ≤ i ∧ ¬ fp i) → ok W'
  lt : ∀ {W : World}, ok W → ∀ i, fp i → i < W.heap.size
/-- These things stand side by side in memory laid since w. -/
structure Hp (w wr : World) (l : List (Ent w.heap.size)) : Prop where
  fr : Fr N0 w wr
  ok : ∀ o ∈ l, o.ok wr
  ge : ∀ o ∈ l, ∀ i, o.fp i → w.heap.size ≤ i
  ap : l.Pairwise fun o p => ∀ i, o.fp i → ¬ p.fp i
section
variable {w wr w' : World} {l : List (Ent w.heap.size)}
theorem Hp.start (h : Fr N0 w wr) : Hp w wr [] := ⟨h, by simp, by simp, .nil⟩
theorem Hp.n0 (h : Hp w wr l) (hf : Fr N0 wr w') : Hp w w' l :=
  ⟨h.fr.trans hf, fun o ho => o.st (h.ok o ho) hf fun _ hi => hi.elim, h.ge, h.ap⟩
theorem Hp.add (h : Hp w wr l) (hf : Fr N0 wr w') (o : Ent w.heap.size) (ho : o.ok w') (hn : ∀ i, o.fp i → wr.heap.size ≤ i) : Hp w w' (o :: l) where
  fr := h.fr.trans hf
  ok p hp := by
    rcases List.mem_cons.1 hp with rfl | hp
    · exact ho
    · exact (h.n0 hf).ok p hp
  ge p hp := by
    rcases List.mem_cons.1 hp with rfl | hp
    · exact fun i hi => Nat.le_trans h.fr.size (hn i hi)
    · exact h.ge p hp
  ap := List.pairwise_cons.2 ⟨fun p hp i hi hpi => by
    have h1 := hn i hi
    have h2 := p.lt (h.ok p hp) i hpi
    omega, h.ap⟩
theorem Hp.at (h : Hp w wr l) {k : Nat} {o : Ent w.heap.size} (hk : l[k]? = some o) : o.ok wr := h.ok o (List.mem_of_getElem? hk)
theorem Hp.sub {r : List (Ent w.heap.size)} (h : Hp w wr l) (hs : r.Sublist l) : Hp w wr r :=
  ⟨h.fr, fun o ho => h.ok o (hs.subset ho), fun o ho => h.ge o (hs.subset ho), h.ap.sublist hs⟩
theorem Hp.tail {o : Ent w.heap.size} (h : Hp w wr (o :: l)) : Hp w wr l := h.sub (List.sublist_cons_self _ _)
theorem Hp.swap {o p : Ent w.heap.size} (h : Hp w wr (o :: p :: l)) : Hp w wr (p :: o :: l) :=
  ⟨h.fr, fun q hq => h.ok q (by simp only [List.mem_cons] at hq ⊢; rcases hq with h | h | h <;> simp [h]), fun q hq => h.ge q (by simp only [List.mem_cons] at hq ⊢; rcases hq with h | h | h <;> simp [h]), by
    obtain ⟨h1, h2⟩ := List.pairwise_cons.1 h.ap
    obtain ⟨h3, h4⟩ := List.pairwise_cons.1 h2
    refine List.pairwise_cons.2 ⟨fun q hq i hi hqi => ?_, List.pairwise_cons.2 ⟨fun q hq => h1 q (List.mem_cons_of_mem _ hq), h4⟩⟩
    rcases List.mem_cons.1 hq with rfl | hq
    · exact h1 p List.mem_cons_self i hqi hi
    · exact h3 q hq i hi hqi⟩
/-- A step of one of them. -/
theorem Hp.upd (h : Hp w wr l) {k : Nat} {o o' : Ent w.heap.size} (hk : l[k]? = some o) (hf : Fr o.fp wr w') (ho : o'.ok w') (hn : ∀ i, o'.fp i → o.fp i ∨ wr.heap.size ≤ i) : Hp w w' (l.set k o') := by
  have hom := List.mem_of_getElem? hk
  have hkl := (List.getElem?_eq_some_iff.1 hk).1
  have hap := h.ap
  rw [List.pairwise_iff_getElem] at hap
  have hko : l[k] = o := (List.getElem?_eq_some_iff.1 hk).2
  have far : ∀ j (hj : j < l.length), j ≠ k → ∀ i, o.fp i → ¬ l[j].fp i := by
    intro j hj hjk i hi hji
    rcases Nat.lt_or_ge j k with hl | hl
    · exact hap j k hj hkl hl i hji (by rw [hko]; exact hi)
    · exact hap k j hkl hj (by omega) i (by rw [hko]; exact hi) hji
  have far' : ∀ j (hj : j < l.length), j ≠ k → ∀ i, o'.fp i → ¬ l[j].fp i := by
    intro j hj hjk i hi hji
    rcases hn i hi with h1 | h1
    · exact far j hj hjk i h1 hji
    · have := l[j].lt (h.ok _ (List.getElem_mem hj)) i hji
      omega
  refine ⟨h.fr.step hf fun i hi => .inr (h.ge o hom i hi), ?_, ?_, ?_⟩
  · intro p hp
    obtain ⟨j, hj, rfl⟩ := List.getElem_of_mem hp
    rw [List.getElem_set]
    split
    · exact ho
    · rename_i hjk
      rw [List.length_set] at hj
      exact (l[j]).st (h.ok _ (List.getElem_mem hj)) hf fun i hi => ⟨h.ge o hom i hi, far j hj (fun e => hjk e.symm) i hi⟩
  · intro p hp i hi
    obtain ⟨j, hj, rfl⟩ := List.getElem_of_mem hp
    rw [List.getElem_set] at hi
    split at hi
    · rcases hn i hi with h1 | h1
      · exact h.ge o hom i h1
      · exact Nat.le_trans h.fr.size h1
    · rw [List.length_set] at hj
      exact h.ge _ (List.getElem_mem hj) i hi
  · rw [List.pairwise_iff_getElem]
    intro a b ha hb hab i hai hbi
    rw [List.length_set] at ha hb
    rw [List.getElem_set] at hai hbi
    by_cases h1 : k = a
    · rw [if_pos h1] at hai
      rw [if_neg (by omega)] at hbi
      exact far' b hb (by omega) i hai hbi
    · rw [if_neg h1] at hai
      by_cases h2 : k = b
      · rw [if_pos h2] at hbi
        exact far' a ha (by omega) i hbi hai
      · rw [if_neg h2] at hbi
        exact hap a b ha hb hab i hai hbi
end
/-- A block known whole. -/
def blkO (b g : Nat) (t : TypeId) (cs : Array Value) : Ent b where
  fp i := i = g
  ok W := Blk W g t cs
  st h hf hS := h.fr hf fun k => (hS _ k).2 rfl
  lt h _ hi := hi ▸ h.lt
/-- A slice of the call's own. -/
def ownO (b : Nat) (e : TypeId) (k : Nat) (A : Option Addr) (n c : Nat) (xs : List Value) : Ent b where
  fp i := A = some ⟨i, 0, none⟩
  ok W := Own W e k A n c xs
  st h hf hS := h.fr hf fun _ e k => (hS _ k).2 e
  lt h _ hi := h.lt hi
/-- Nothing. -/
def nopO (b : Nat) : Ent b := ⟨fun _ => False, fun _ => True, fun _ _ _ => trivial, fun _ _ h => h.elim⟩
end Go.Proofs.YtnklbeigikcfkaaGreatDoor
namespace Go.Proofs.YtnklbeigikcfkaaGreatDoor
open Go.Proofs Go.RowKit
def ribO (b r : Nat) (F : Nat → Prop) (L : List Td) : Ent b where
  fp := F
  ok W := RibIs W r F L ∧ 0 < b
  st h hf hS := ⟨h.1.fr hf (fun _ hi hs => (hS _ hs).2 hi) (fun hs => by have := (hS _ hs).1; have := h.2; omega), h.2⟩
  lt h _ hi := h.1.lt _ hi
section
variable {w wr w' : World} {l : List (Ent w.heap.size)}
theorem Hp.ribTo (h : Hp w wr l) {k r : Nat} {F : Nat → Prop} {L L' : List Td} (hk : l[k]? = some (ribO _ r F L)) (ht : RibTo wr r F L' w') : ∃ F', Hp w w' (l.set k (ribO _ r F' L')) := by
  obtain ⟨F', h1, h2, h3⟩ := ht
  exact ⟨F', h.upd hk h3 (o' := ribO _ r F' L') ⟨h1, (h.at hk).2⟩ h2⟩
theorem Hp.rib (h : Hp w wr l) {k r : Nat} {F : Nat → Prop} {L : List Td} (hk : l[k]? = some (ribO _ r F L)) : RibIs wr r F L := (h.at hk).1
theorem Hp.addRib (h : Hp w wr l) (hd : 0 < w.heap.size) {r : Nat} {F : Nat → Prop} {L : List Td} (hR : RibIs w' r F L) (hf : Fr N0 wr w') (hn : ∀ i, F i → wr.heap.size ≤ i) : Hp w w' (ribO _ r F L :: l) :=
  h.add hf (ribO _ r F L) ⟨hR, hd⟩ hn
theorem Hp.addOwn (h : Hp w wr l) {e : TypeId} {k : Nat} {A : Option Addr} {n c : Nat} {xs : List Value} (ho : Own w' e k A n c xs) (hf : Fr N0 wr w') (hn : ∀ g, A = some ⟨g, 0, none⟩ → wr.heap.size ≤ g) : Hp w w' (ownO _ e k A n c xs :: l) :=
  h.add hf (ownO _ e k A n c xs) ho fun i hi => hn i hi
theorem Hp.addBlk (h : Hp w wr l) {g : Nat} {t : TypeId} {cs : Array Value} (hb : Blk w' g t cs) (hf : Fr N0 wr w') (hn : wr.heap.size ≤ g) : Hp w w' (blkO _ g t cs :: l) :=
  h.add hf (blkO _ g t cs) hb fun i hi => by rw [show i = g from hi]; exact hn
end
/-- All paths of some prefixes. -/
structure Done (L S : List Td) (D : Px → Prop) : Prop where
  row : RowT clsA S
  mem : ∀ u, u ∈ S ↔ u ∈ L ∧ D u.1
end Go.Proofs.YtnklbeigikcfkaaGreatDoor
namespace Go.Proofs.YtnklbeigikcfkaaGreatDoor
open Go.Proofs Go.RowKit
def rfO (b q : Nat) (F : Nat → Prop) (L : List Td) : Ent b where
  fp := F
  ok W := Rf W q F L
  st h hf hS := h.fr hf fun i hi hs => (hS i hs).2 hi
  lt h _ hi := h.lt _ hi
section
variable {w wr w' : World} {l : List (Ent w.heap.size)}
theorem Hp.rfTo (h : Hp w wr l) {k q : Nat} {F : Nat → Prop} {L L' : List Td} (hk : l[k]? = some (rfO _ q F L)) (ht : RfTo wr q F L' w') : ∃ F', Hp w w' (l.set k (rfO _ q F' L')) := by
  obtain ⟨F', h1, h2, h3⟩ := ht
  exact ⟨F', h.upd hk h3 (o' := rfO _ q F' L') h1 h2⟩
theorem Hp.rf (h : Hp w wr l) {k q : Nat} {F : Nat → Prop} {L : List Td} (hk : l[k]? = some (rfO _ q F L)) : Rf wr q F L := h.at hk
theorem Hp.addRf (h : Hp w wr l) {q : Nat} {F : Nat → Prop} {L : List Td} (hR : Rf w' q F L) (hf : Fr N0 wr w') (hn : ∀ i, F i → wr.heap.size ≤ i) : Hp w w' (rfO _ q F L :: l) :=
  h.add hf (rfO _ q F L) hR hn
/-- Cells of a slice stored anew. -/
theorem Hp.sets (h : Hp w wr l) {k : Nat} {e : TypeId} {m g n c : Nat} {xs : List Value} (hk : l[k]? = some (ownO _ e m (some ⟨g, 0, none⟩) n c xs)) (o : Nat) (vs : List Value) : ∃ ys, Hp w (wr.setCells g o vs) (l.set k (ownO _ e m (some ⟨g, 0, none⟩) n c ys)) :=
  ⟨setsL xs o vs, h.upd hk (Fr.setsC vs o (Fr.refl _ _) (.inl rfl)) (o' := ownO _ e m (some ⟨g, 0, none⟩) n c (setsL xs o vs)) ((h.at hk : Own wr e m (some ⟨g, 0, none⟩) n c xs).setsC vs o) fun _ hi => .inl hi⟩
end
theorem Own.ex {w : World} {e : TypeId} {m g n c : Nat} {xs : List Value} (h : Own w e m (some ⟨g, 0, none⟩) n c xs) {j : Nat} (hj : j < n * m) : ∃ v, w.cell? ⟨g, j, none⟩ = some v := by
  rw [h.cell j hj]
  exact ⟨_, List.getElem?_eq_getElem (by rw [h.1]; exact hj)⟩
end Go.Proofs.YtnklbeigikcfkaaGreatDoor
