/- What the chapter's own theorems say of a right row: what holds an address, a row told anew, a full one. -/
import Derived.Test.YtnklbeigikcfkaaDoorRp4
import Derived.Test.YtnklbeigikcfkaaDoorCs
namespace Go.Proofs.YtnklbeigikcfkaaDoor
variable {cls : Ad → Int}
theorem validP_parts {p : Px} (h : validP p = true) : validA p.ad = true ∧ 0 ≤ p.bits ∧ p.bits ≤ widthA p.ad ∧ cutA p.ad p.bits = p.ad := by
  unfold validP at h
  simp only [Bool.and_eq_true, decide_eq_true_eq] at h
  exact ⟨h.1.1.1, h.1.1.2, h.1.2, h.2⟩
theorem over_self {L : List Td} (h : RowT cls L) {p : Px} (hp : p ∈ prefsT L) : p ∈ overT L p.ad := by
  unfold overT
  rw [List.mem_reverse, List.mem_filter]
  refine ⟨hp, ?_⟩
  obtain ⟨x, hx⟩ := mem_prefsT.1 hp
  have hv := (mayP_facts (h.may _ hx)).1
  obtain ⟨h1, _, _, h4⟩ := validP_parts hv
  simp only at hv h1 h4
  unfold holdsP
  simp only [Bool.and_eq_true, decide_eq_true_eq]
  exact ⟨⟨⟨hv, h1⟩, trivial⟩, h4⟩
theorem dnT_lt {L : List Td} {a : Ad} {n : Nat} {q : Px} (h : q ∈ dnT L a n) : q.bits < (n : Int) := by
  obtain ⟨k, k1, k2, k3, _⟩ := mem_dnT.1 h
  rw [(ofP_zero k2).1] at k3
  subst k3
  simp only
  omega
theorem dnT_bits {L : List Td} {a : Ad} : ∀ n, (dnT L a n).Pairwise fun p q => q.bits < p.bits
  | 0 => by simp [dnT]
  | n + 1 => by
    rw [dnT]
    split
    · rename_i hc
      refine List.pairwise_cons.2 ⟨fun q hq => ?_, dnT_bits n⟩
      have := dnT_lt hq
      rw [(ofP_zero hc.1).1]
      exact this
    · exact dnT_bits n
theorem over_bits {L : List Td} (h : RowT cls L) {a : Ad} (ho : a.ok) : (overT L a).Pairwise fun p q => q.bits < p.bits := by
  rw [← dnT_over h ho]
  exact dnT_bits 129
theorem over_step {L : List Td} (h : RowT cls L) {a : Ad} (ho : a.ok) {k : Nat} {p q : Px} (hp : (overT L a)[k]? = some p) (hq : (overT L a)[k + 1]? = some q) : q.bits < p.bits := by
  have := over_bits h ho
  rw [List.pairwise_iff_getElem] at this
  obtain ⟨h1, e1⟩ := List.getElem?_eq_some_iff.1 hp
  obtain ⟨h2, e2⟩ := List.getElem?_eq_some_iff.1 hq
  have := this k (k + 1) h1 h2 (by omega)
  rwa [e1, e2] at this
theorem paths_step {L : List Td} (h : RowT cls L) {p : Px} {k : Nat} {x y : Pa} (hx : (pathsT L p)[k]? = some x) (hy : (pathsT L p)[k + 1]? = some y) : betP x y = true := by
  have := pathsT_up h.up p
  rw [List.pairwise_iff_getElem] at this
  obtain ⟨h1, e1⟩ := List.getElem?_eq_some_iff.1 hx
  obtain ⟨h2, e2⟩ := List.getElem?_eq_some_iff.1 hy
  have := this k (k + 1) h1 h2 (by omega)
  rwa [e1, e2] at this
/-- How many paths the first prefixes have. -/
def sumK (L : List Td) (j : Nat) : Nat := (((prefsT L).take j).map fun p => (pathsT L p).length).sum
theorem sumK_succ {L : List Td} {j : Nat} {p : Px} (hp : (prefsT L)[j]? = some p) : sumK L (j + 1) = sumK L j + (pathsT L p).length := by
  obtain ⟨hj, e⟩ := List.getElem?_eq_some_iff.1 hp
  unfold sumK
  rw [List.take_succ_eq_append_getElem hj, e, List.map_append, List.sum_append]
  simp
theorem sumK_all {L : List Td} (h : RowT cls L) {j : Nat} (hj : (prefsT L).length ≤ j) : sumK L j = L.length := by
  unfold sumK
  rw [List.take_of_length_le hj]
  exact sum_paths L (prefsT_nodup h.up) fun u hu => mem_prefsT.2 ⟨u.2, hu⟩
theorem sumK_le {L : List Td} (h : RowT cls L) (j : Nat) : sumK L j ≤ 4 * j := by
  unfold sumK
  have : ∀ ks : List Px, (ks.map fun p => (pathsT L p).length).sum ≤ 4 * ks.length := by
    intro ks
    induction ks with
    | nil => simp
    | cons a r ih =>
      have := h.four a
      simp only [List.map_cons, List.sum_cons, List.length_cons]
      omega
  have h1 := this ((prefsT L).take j)
  have h2 := List.length_take_le j (prefsT L)
  omega
/-! a row told anew -/
theorem sub_len {α : Type} [DecidableEq α] : ∀ {l r : List α}, l.Nodup → (∀ x ∈ l, x ∈ r) → l.length ≤ r.length
  | [], _, _, _ => Nat.zero_le _
  | a :: l, r, hn, hs => by
    obtain ⟨h1, h2⟩ := List.nodup_cons.1 hn
    have ha := hs a List.mem_cons_self
    have := sub_len (l := l) (r := r.erase a) h2 fun x hx => (List.mem_erase_of_ne (by rintro rfl; exact h1 hx)).2 (hs x (List.mem_cons_of_mem _ hx))
    rw [List.length_erase_of_mem ha] at this
    have := List.length_pos_of_mem ha
    simp only [List.length_cons]
    omega
theorem up_nodup {L : List Td} (h : L.Pairwise fun u v => aheadT u v = true) : L.Nodup := h.imp fun k e => by rw [e, aheadT_irrefl] at k; cases k
theorem up_eq {L S : List Td} (hL : L.Pairwise fun u v => aheadT u v = true) (hS : S.Pairwise fun u v => aheadT u v = true) (h : ∀ u, u ∈ S ↔ u ∈ L) : S = L := by
  refine List.Perm.eq_of_pairwise (le := fun u v => aheadT u v = true) (fun u v _ _ k1 k2 => ?_) hS hL ((List.perm_ext_iff_of_nodup (up_nodup hS) (up_nodup hL)).2 h)
  have := aheadT_trans k1 k2
  rw [aheadT_irrefl] at this
  cases this
theorem one_of {L : List Td} (h : RowT cls L) {u v : Td} (hu : u ∈ L) (hv : v ∈ L) (hw : u.1 = v.1 ∧ sameW u.2 v.2 = true) : u = v := by
  apply Classical.byContradiction
  intro hne
  have := h.one
  rw [List.pairwise_iff_getElem] at this
  obtain ⟨i, hi, rfl⟩ := List.getElem_of_mem hu
  obtain ⟨j, hj, rfl⟩ := List.getElem_of_mem hv
  rcases Nat.lt_trichotomy i j with k | k | k
  · exact this i j hi hj k hw
  · subst k
    exact hne rfl
  · exact one_symm (this j i hj hi k) hw
theorem pathsT_nodup {L : List Td} (h : L.Pairwise fun u v => aheadT u v = true) (p : Px) : (pathsT L p).Nodup := (pathsT_up h p).imp fun k e => by rw [e, betP_irrefl] at k; cases k
/-- One path more of a right row, put to a part of it. -/
theorem hist_put {L S : List Td} (hL : RowT cls L) (hS : RowT cls S) (hsub : ∀ u ∈ S, u ∈ L) {p : Px} {x : Pa} (ht : (p, x) ∈ L) (hn : (p, x) ∉ S) : putT cls S p x = (insT (p, x) S, 0) := by
  have hm := hL.may _ ht
  simp only at hm
  have hw : S.any (wayT p x) = false := by
    rw [List.any_eq_false]
    intro u hu hw
    unfold wayT at hw
    simp only [Bool.and_eq_true, decide_eq_true_eq] at hw
    have := one_of hL ht (hsub u hu) ⟨hw.1.symm, hw.2⟩
    exact hn (this ▸ hu)
  have h4 : (pathsT S p).length < 4 := by
    have hs : (x :: pathsT S p).length ≤ (pathsT L p).length := by
      refine sub_len ?_ ?_
      · refine List.nodup_cons.2 ⟨fun k => hn (mem_pathsT.1 k), pathsT_nodup hS.up p⟩
      · intro y hy
        rcases List.mem_cons.1 hy with rfl | hy
        · exact mem_pathsT.2 ht
        · exact mem_pathsT.2 (hsub _ (mem_pathsT.1 hy))
    have := hL.four p
    simp only [List.length_cons] at *
    omega
  have h90 : ¬ (pathsT S p = [] ∧ 90 ≤ (prefsT S).length) := by
    rintro ⟨h1, h2⟩
    have hs : (p :: prefsT S).length ≤ (prefsT L).length := by
      refine sub_len ?_ ?_
      · refine List.nodup_cons.2 ⟨fun k => (paths_prefs.2 k) h1, prefsT_nodup hS.up⟩
      · intro q hq
        rcases List.mem_cons.1 hq with rfl | hq
        · exact mem_prefsT.2 ⟨x, ht⟩
        · obtain ⟨y, hy⟩ := mem_prefsT.1 hq
          exact mem_prefsT.2 ⟨y, hsub _ hy⟩
    have := hL.many
    simp only [List.length_cons] at *
    omega
  unfold putT
  rw [if_neg (by rw [hm]; simp), if_neg (by rw [hw]; simp), if_neg (by rintro (k | k); omega; exact h90 k)]
theorem hist_row {L S : List Td} (hL : RowT cls L) (hS : RowT cls S) (hsub : ∀ u ∈ S, u ∈ L) {p : Px} {x : Pa} (ht : (p, x) ∈ L) (hn : (p, x) ∉ S) : RowT cls (insT (p, x) S) := by
  have := hS.put (p := p) (x := x) (hL.ok _ ht).1 (hL.ok _ ht).2
  rwa [hist_put hL hS hsub ht hn] at this
/-- A part of a right row: all paths of some prefixes, and of one more the last ones. -/
structure Part (L S : List Td) (D : Px → Prop) (p : Px) (k : Nat) : Prop where
  row : RowT clsA S
  mem : ∀ u, u ∈ S ↔ u ∈ L ∧ (D u.1 ∨ (u.1 = p ∧ ∃ i, k ≤ i ∧ (pathsT L p)[i]? = some u.2))
theorem Part.put {L S : List Td} {D : Px → Prop} {p : Px} {k : Nat} (hL : RowT clsA L) (h : Part L S D p (k + 1)) (hD : ¬ D p) {x : Pa} (hx : (pathsT L p)[k]? = some x) :
    putT clsA S p x = (insT (p, x) S, 0) ∧ Part L (insT (p, x) S) D p k := by
  have ht : (p, x) ∈ L := mem_pathsT.1 (List.mem_of_getElem? hx)
  have hn : (p, x) ∉ S := by
    intro hs
    obtain ⟨_, k1 | ⟨_, i, hi, hxi⟩⟩ := (h.mem _).1 hs
    · exact hD k1
    · have hnd := pathsT_nodup hL.up p
      simp only at hxi
      obtain ⟨a1, b1⟩ := List.getElem?_eq_some_iff.1 hx
      obtain ⟨a2, b2⟩ := List.getElem?_eq_some_iff.1 hxi
      have := (List.getElem_inj (h₀ := a1) (h₁ := a2) hnd).1 (b1.trans b2.symm)
      omega
  have hsub : ∀ u ∈ S, u ∈ L := fun u hu => ((h.mem u).1 hu).1
  refine ⟨hist_put hL h.row hsub ht hn, hist_row hL h.row hsub ht hn, fun u => ?_⟩
  rw [mem_insT, h.mem]
  constructor
  · rintro (rfl | ⟨h1, h2 | ⟨h2, i, h3, h4⟩⟩)
    · exact ⟨ht, .inr ⟨rfl, k, Nat.le_refl _, hx⟩⟩
    · exact ⟨h1, .inl h2⟩
    · exact ⟨h1, .inr ⟨h2, i, by omega, h4⟩⟩
  · rintro ⟨h1, h2 | ⟨h2, i, h3, h4⟩⟩
    · exact .inr ⟨h1, .inl h2⟩
    · rcases Nat.lt_or_ge k i with hi | hi
      · exact .inr ⟨h1, .inr ⟨h2, i, hi, h4⟩⟩
      · obtain rfl : i = k := by omega
        rw [hx] at h4
        left
        obtain ⟨u1, u2⟩ := u
        simp only at h2 h4
        rw [Option.some.inj h4, h2]
/-- All prefixes done: the row itself. -/
theorem Part.all {L S : List Td} {D : Px → Prop} {p : Px} {k : Nat} (hL : RowT clsA L) (h : Part L S D p k) (hD : ∀ q ∈ prefsT L, D q) : S = L :=
  up_eq hL.up h.row.up fun u => by
    rw [h.mem]
    exact ⟨fun k => k.1, fun hu => ⟨hu, .inl (hD _ (mem_prefsT.2 ⟨u.2, hu⟩))⟩⟩
/-- A prefix is done: the next one. -/
theorem Part.next {L S : List Td} {D D' : Px → Prop} {p q : Px} {n : Nat} (h : Part L S D p 0) (hD : ∀ r, D' r ↔ D r ∨ r = p) (hn : (pathsT L q).length ≤ n) : Part L S D' q n where
  row := h.row
  mem u := by
    rw [h.mem, hD]
    constructor
    · rintro ⟨h1, h2 | ⟨h2, _⟩⟩
      · exact ⟨h1, .inl (.inl h2)⟩
      · exact ⟨h1, .inl (.inr h2)⟩
    · rintro ⟨h1, (h2 | h2) | ⟨_, i, h3, h4⟩⟩
      · exact ⟨h1, .inl h2⟩
      · refine ⟨h1, .inr ⟨h2, ?_⟩⟩
        have hm : u.2 ∈ pathsT L p := mem_pathsT.2 (by rw [← h2]; exact h1)
        obtain ⟨i, hi⟩ := List.getElem?_of_mem hm
        exact ⟨i, Nat.zero_le _, hi⟩
      · have := (List.getElem?_eq_some_iff.1 h4).1
        omega
theorem Part.start (L : List Td) (q : Px) {n : Nat} (hn : (pathsT L q).length ≤ n) : Part L [] (fun _ => False) q n where
  row := .nil
  mem u := by
    constructor
    · intro h; cases h
    · rintro ⟨_, h | ⟨_, i, h3, h4⟩⟩
      · cases h
      · have := (List.getElem?_eq_some_iff.1 h4).1
        omega
/-- Which prefixes were gone through, from some one on, around. -/
def Turned (l : List Px) (t i : Nat) (q : Px) : Prop := ∃ j, j < i ∧ l[(j + t) % l.length]? = some q
theorem Turned.succ {l : List Px} {t i : Nat} {p : Px} (hp : l[(i + t) % l.length]? = some p) (q : Px) : Turned l t (i + 1) q ↔ Turned l t i q ∨ q = p := by
  constructor
  · rintro ⟨j, hj, e⟩
    by_cases h : j = i
    · subst h
      rw [hp] at e
      exact .inr (Option.some.inj e).symm
    · exact .inl ⟨j, by omega, e⟩
  · rintro (⟨j, hj, e⟩ | rfl)
    · exact ⟨j, by omega, e⟩
    · exact ⟨i, by omega, hp⟩
theorem Turned.fresh {l : List Px} (hl : l.Nodup) {t i : Nat} (ht : t < l.length) (hi : i < l.length) {p : Px} (hp : l[(i + t) % l.length]? = some p) : ¬ Turned l t i p := by
  rintro ⟨j, hj, e⟩
  obtain ⟨a1, b1⟩ := List.getElem?_eq_some_iff.1 hp
  obtain ⟨a2, b2⟩ := List.getElem?_eq_some_iff.1 e
  have := (List.getElem_inj (h₀ := a1) (h₁ := a2) hl).1 (b1.trans b2.symm)
  by_cases c1 : i + t < l.length
  · rw [Nat.mod_eq_of_lt c1, Nat.mod_eq_of_lt (by omega)] at this
    omega
  · rw [Nat.mod_eq_sub_mod (by omega), Nat.mod_eq_of_lt (by omega : i + t - l.length < l.length)] at this
    by_cases c2 : j + t < l.length
    · rw [Nat.mod_eq_of_lt c2] at this
      omega
    · rw [Nat.mod_eq_sub_mod (by omega), Nat.mod_eq_of_lt (by omega : j + t - l.length < l.length)] at this
      omega
theorem Turned.all {l : List Px} {t : Nat} (ht : t < l.length) {q : Px} (hq : q ∈ l) : Turned l t l.length q := by
  obtain ⟨k, hk⟩ := List.getElem?_of_mem hq
  have hkl := (List.getElem?_eq_some_iff.1 hk).1
  by_cases c : t ≤ k
  · refine ⟨k - t, by omega, ?_⟩
    rw [Nat.mod_eq_of_lt (by omega), show k - t + t = k by omega]
    exact hk
  · refine ⟨k + l.length - t, by omega, ?_⟩
    rw [show k + l.length - t + t = k + l.length by omega, Nat.add_mod_right, Nat.mod_eq_of_lt hkl]
    exact hk
end Go.Proofs.YtnklbeigikcfkaaDoor
