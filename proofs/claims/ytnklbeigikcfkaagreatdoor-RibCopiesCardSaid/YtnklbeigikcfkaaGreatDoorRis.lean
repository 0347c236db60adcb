/- A rib in memory: a map of slices, by one row of paths to prefixes. -/
import Derived.Test.YtnklbeigikcfkaaGreatDoorKx
import Derived.Test.YtnklbeigikcfkaaGreatDoorSo
import Derived.Test.YtnklbeigikcfkaaGreatDoorRp3
import Derived.Test.YtnklbeigikcfkaaGreatDoorMy
namespace Go.Proofs.YtnklbeigikcfkaaGreatDoor
open Go.Proofs Go.RowKit Go.ChangeShapes Go.WideShapes
open Go.Maps (Keyed)
abbrev Sl := Option Addr × Nat × Nat
def slV (s : Sl) : Value := .slice s.1 s.2.1 s.2.2
/-- The entries of the map hold the paths of the row. -/
structure RibM (w : World) (F : Nat → Prop) (M : List (Px × Sl)) (L : List Td) : Prop where
  ent : ∀ p s, (p, s) ∈ M → ∃ g, s.1 = some ⟨g, 0, none⟩ ∧ F g ∧ Own w 34 7 s.1 s.2.1 s.2.2 (flat (pathsT L p)) ∧ (pathsT L p).length = s.2.1 ∧ pathsT L p ≠ []
  all : ∀ p, pathsT L p ≠ [] → ∃ s, (p, s) ∈ M
  apart : ∀ p s q s', (p, s) ∈ M → (q, s') ∈ M → s.1 = s'.1 → p = q
/-- Block r is a rib with the paths of the row L; what it is made of lies among F. -/
structure RibIs (w : World) (r : Nat) (F : Nat → Prop) (L : List Td) : Prop where
  mem : ∃ b M, Blk w r 61 #[.map (some b)] ∧ MapIs Tryz.prog 32 pxV slV w b M ∧ RibM w F M L ∧ F b
  at_ : F r
  row : RowT clsA L
  dst : Dst w
  nd : ¬ F 0
  lt : ∀ i, F i → i < w.heap.size
theorem pxV_inj {p q : Px} (h : pxV p = pxV q) : p = q := by
  obtain ⟨⟨s, h1, l⟩, m⟩ := p
  obtain ⟨⟨s', h1', l'⟩, m'⟩ := q
  unfold pxV at h
  simp only [Value.agg.injEq, Array.mk.injEq, List.cons.injEq, Value.bool.injEq, Value.int.injEq, true_and, and_true] at h
  obtain ⟨rfl, e1, e2, rfl⟩ := h
  obtain rfl : h1 = h1' := by omega
  obtain rfl : l = l' := by omega
  rfl
theorem RibM.fr {w w' : World} {F S : Nat → Prop} {M : List (Px × Sl)} {L : List Td} (h : RibM w F M L) (hf : Fr S w w') (hS : ∀ i, F i → ¬ S i) : RibM w' F M L where
  ent p s hm := by
    obtain ⟨g, h1, h2, h3, h4⟩ := h.ent p s hm
    exact ⟨g, h1, h2, h3.fr hf fun k e => by rw [h1] at e; cases e; exact hS g h2, h4⟩
  all := h.all
  apart := h.apart
theorem RibIs.fr {w w' : World} {r : Nat} {F S : Nat → Prop} {L : List Td} (h : RibIs w r F L) (hf : Fr S w w') (hS : ∀ i, F i → ¬ S i) (hg : ¬ S 0) : RibIs w' r F L := by
  obtain ⟨b, M, h1, h2, h3, h4⟩ := h.mem
  exact ⟨⟨b, M, h1.fr hf (hS r h.at_), h2.fr hf (hS b h4), h3.fr hf hS, h4⟩, h.at_, h.row, h.dst.fr hf hg, h.nd, fun i hi => Nat.lt_of_lt_of_le (h.lt i hi) hf.size⟩
theorem RibIs.n0 {w w' : World} {r : Nat} {F : Nat → Prop} {L : List Td} (h : RibIs w r F L) (hf : Fr N0 w w') : RibIs w' r F L := h.fr hf (fun _ _ => id) id
/-- What is laid since belongs to it, too. -/
def More (F : Nat → Prop) (w w' : World) (i : Nat) : Prop := F i ∨ (w.heap.size ≤ i ∧ i < w'.heap.size)
/-- The rib behind a step that turned nothing but its own. -/
def RibTo (w : World) (r : Nat) (F : Nat → Prop) (L : List Td) (w' : World) : Prop := ∃ F', RibIs w' r F' L ∧ (∀ i, F' i → F i ∨ w.heap.size ≤ i) ∧ Fr F w w'
theorem RibIs.to {w w' : World} {r : Nat} {F : Nat → Prop} {L : List Td} (h : RibIs w r F L) (hf : Fr N0 w w') : RibTo w r F L w' :=
  ⟨F, h.n0 hf, fun _ => .inl, hf.mono fun _ _ h => h.elim⟩
/-- Where the key stands in the map, or that it stands nowhere. -/
theorem key_find (M : List (Px × Sl)) (p : Px) : (∃ (k : Nat) (s : Sl), M[k]? = some (p, s)) ∨ ∀ e ∈ M, e.1 ≠ p := by
  by_cases h : ∃ e ∈ M, e.1 = p
  · obtain ⟨⟨q, s⟩, he, rfl⟩ := h
    obtain ⟨k, hk⟩ := List.getElem?_of_mem he
    exact .inl ⟨k, s, hk⟩
  · exact .inr fun e he h' => h ⟨e, he, h'⟩
theorem set_mem {M : List (Px × Sl)} (hap : M.Pairwise fun p q => p.1 ≠ q.1) {k : Nat} {p : Px} {s s' : Sl} (hk : M[k]? = some (p, s)) {q : Px} {t : Sl} (h : (q, t) ∈ M.set k (p, s')) : (q = p ∧ t = s') ∨ (q ≠ p ∧ (q, t) ∈ M) := by
  obtain ⟨j, hj⟩ := List.getElem?_of_mem h
  have hkl := (List.getElem?_eq_some_iff.1 hk).1
  by_cases e : j = k
  · subst e
    rw [List.getElem?_set_self hkl] at hj
    cases hj
    exact .inl ⟨rfl, rfl⟩
  · rw [List.getElem?_set_ne (fun h => e h.symm)] at hj
    refine .inr ⟨fun hq => ?_, List.mem_of_getElem? hj⟩
    subst hq
    rw [List.pairwise_iff_getElem] at hap
    obtain ⟨h1, h2⟩ := List.getElem?_eq_some_iff.1 hj
    obtain ⟨h3, h4⟩ := List.getElem?_eq_some_iff.1 hk
    rcases Nat.lt_or_ge j k with hl | hl
    · have := hap j k h1 h3 hl
      rw [h2, h4] at this
      exact this rfl
    · have := hap k j h3 h1 (by omega)
      rw [h2, h4] at this
      exact this rfl
theorem mem_set {M : List (Px × Sl)} {k : Nat} {p : Px} {s s' : Sl} (hk : M[k]? = some (p, s)) {q : Px} {t : Sl} (hq : q ≠ p) (h : (q, t) ∈ M) : (q, t) ∈ M.set k (p, s') := by
  obtain ⟨j, hj⟩ := List.getElem?_of_mem h
  have e : j ≠ k := by
    rintro rfl
    rw [hk] at hj
    cases hj
    exact hq rfl
  exact List.mem_of_getElem? (i := j) (by rw [List.getElem?_set_ne (fun h => e h.symm)]; exact hj)
theorem self_set {M : List (Px × Sl)} {k : Nat} {p : Px} {s : Sl} (hk : M[k]? = some (p, s)) (s' : Sl) : (p, s') ∈ M.set k (p, s') :=
  List.mem_of_getElem? (i := k) (by rw [List.getElem?_set_self (List.getElem?_eq_some_iff.1 hk).1])
/-- The entries behind a step at one prefix: it has a slice now (s'), all others stand. -/
theorem RibM.upd {w w' : World} {F S : Nat → Prop} {M M' : List (Px × Sl)} {L L' : List Td} {p : Px} {s' : Sl} {g' : Nat} (h : RibM w F M L) (hlt : ∀ i, F i → i < w.heap.size) (hf : Fr S w w')
    (hS : ∀ q t g, q ≠ p → (q, t) ∈ M → t.1 = some ⟨g, 0, none⟩ → ¬ S g) (hL : ∀ q, q ≠ p → pathsT L' q = pathsT L q)
    (hin : ∀ q t, (q, t) ∈ M' → (q = p ∧ t = s') ∨ (q ≠ p ∧ (q, t) ∈ M)) (hself : (p, s') ∈ M') (hoth : ∀ q t, q ≠ p → (q, t) ∈ M → (q, t) ∈ M')
    (hg' : s'.1 = some ⟨g', 0, none⟩) (hnew : (∃ s, (p, s) ∈ M ∧ s.1 = s'.1) ∨ (w.heap.size ≤ g' ∧ g' < w'.heap.size)) (ho : Own w' 34 7 s'.1 s'.2.1 s'.2.2 (flat (pathsT L' p))) (hn : (pathsT L' p).length = s'.2.1) (hne : pathsT L' p ≠ []) :
    RibM w' (More F w w') M' L' where
  ent q t hm := by
    rcases hin q t hm with ⟨rfl, rfl⟩ | ⟨hq, hm⟩
    · refine ⟨g', hg', ?_, ho, hn, hne⟩
      rcases hnew with ⟨s, hs, e⟩ | hnew
      · obtain ⟨g, e1, hF, _⟩ := h.ent q s hs
        rw [e, hg'] at e1
        cases e1
        exact .inl hF
      · exact .inr hnew
    · obtain ⟨g, h1, h2, h3, h4⟩ := h.ent q t hm
      rw [hL q hq]
      exact ⟨g, h1, .inl h2, h3.fr hf fun k e => by rw [h1] at e; cases e; exact hS q t g hq hm h1, h4⟩
  all q hq := by
    by_cases e : q = p
    · subst e
      exact ⟨s', hself⟩
    · rw [hL q e] at hq
      obtain ⟨t, ht⟩ := h.all q hq
      exact ⟨t, hoth q t e ht⟩
  apart q t q2 t2 h1 h2 e := by
    have key : ∀ q t, q ≠ p → (q, t) ∈ M → t.1 ≠ s'.1 := by
      intro q t hq hm e
      obtain ⟨g, e1, hF, _⟩ := h.ent q t hm
      rcases hnew with ⟨s, hs, e2⟩ | hnew
      · exact hq (h.apart q t p s hm hs (e.trans e2.symm))
      · rw [e, hg'] at e1
        cases e1
        have := hlt _ hF
        omega
    rcases hin q t h1 with ⟨rfl, rfl⟩ | ⟨hq, hm⟩ <;> rcases hin q2 t2 h2 with ⟨rfl, rfl⟩ | ⟨hq2, hm2⟩
    · rfl
    · exact absurd e.symm (key _ _ hq2 hm2)
    · exact absurd e (key _ _ hq hm)
    · exact h.apart q t q2 t2 hm hm2 e
/-- The entries behind a step that took one prefix away. -/
theorem RibM.less {w w' : World} {F S : Nat → Prop} {M M' : List (Px × Sl)} {L L' : List Td} {p : Px} (h : RibM w F M L) (hf : Fr S w w')
    (hS : ∀ q t g, q ≠ p → (q, t) ∈ M → t.1 = some ⟨g, 0, none⟩ → ¬ S g) (hL : ∀ q, q ≠ p → pathsT L' q = pathsT L q) (hp : pathsT L' p = [])
    (hin : ∀ q t, (q, t) ∈ M' → q ≠ p ∧ (q, t) ∈ M) (hoth : ∀ q t, q ≠ p → (q, t) ∈ M → (q, t) ∈ M') : RibM w' F M' L' where
  ent q t hm := by
    obtain ⟨hq, hm⟩ := hin q t hm
    obtain ⟨g, h1, h2, h3, h4⟩ := h.ent q t hm
    rw [hL q hq]
    exact ⟨g, h1, h2, h3.fr hf fun k e => by rw [h1] at e; cases e; exact hS q t g hq hm h1, h4⟩
  all q hq := by
    by_cases e : q = p
    · subst e
      exact absurd hp hq
    · rw [hL q e] at hq
      obtain ⟨t, ht⟩ := h.all q hq
      exact ⟨t, hoth q t e ht⟩
  apart q t q2 t2 h1 h2 e := h.apart q t q2 t2 (hin q t h1).2 (hin q2 t2 h2).2 e
/-- As many entries as prefixes. -/
theorem RibM.len {w : World} {F : Nat → Prop} {M : List (Px × Sl)} {L : List Td} (h : RibM w F M L) (hap : M.Pairwise fun p q => p.1 ≠ q.1) (hL : L.Pairwise fun u v => aheadT u v = true) : M.length = (prefsT L).length := by
  have hn : (M.map (·.1)).Nodup := List.pairwise_map.2 hap
  have := ((List.perm_ext_iff_of_nodup hn (prefsT_nodup hL)).2 fun p => by
    rw [← paths_prefs, List.mem_map]
    constructor
    · rintro ⟨⟨q, s⟩, hm, rfl⟩
      exact (h.ent q s hm).choose_spec.2.2.2.2
    · intro hp
      obtain ⟨s, hs⟩ := h.all p hp
      exact ⟨(p, s), hs, rfl⟩).length_eq
  rwa [List.length_map] at this
theorem own_ne_other {w : World} {e e' : TypeId} {g n c k : Nat} {xs : List Value} (h : Own w e k (some ⟨g, 0, none⟩) n c xs) {b : Nat} {cs : Array Value} (hb : Blk w b e' cs) (hne : e ≠ e') : g ≠ b := h.block_ne hb hne
theorem own_ne_map {w : World} {e : TypeId} {g n c k b : Nat} {xs : List Value} {M : List (Px × Sl)} (h : Own w e k (some ⟨g, 0, none⟩) n c xs) (hb : MapIs Tryz.prog 32 pxV slV w b M) : g ≠ b := by
  rintro rfl
  obtain ⟨es, clock, hh, _⟩ := hb
  rcases h.2 with ⟨h, _⟩ | ⟨g', cur, hv, hg, _⟩
  · cases h
  · cases hv
    rw [hh] at hg
    cases hg
end Go.Proofs.YtnklbeigikcfkaaGreatDoor
