/- The laws of a right row of paths. -/
import Derived.Test.YtnklbeigikcfkaaGreatDoorRp1
namespace Go.Proofs.YtnklbeigikcfkaaGreatDoor
variable {cls : Ad → Int}
theorem mayP_facts {p : Px} {x : Pa} (h : mayP cls p x = true) : validP p = true ∧ 0 ≤ x.proto ∧ x.proto ≤ 4 ∧ 0 ≤ x.metric ∧ x.metric ≤ 65535 ∧ 0 ≤ x.port ∧ x.port ≤ 8 := by
  unfold mayP at h
  split at h
  · cases h
  · rename_i k
    have hv : validP p = true := by
      cases e : validP p with
      | true => rfl
      | false => exact absurd (.inl e) k
    refine ⟨hv, by omega, by omega, by omega, by omega, ?_⟩
    split at h
    · simp only [Bool.and_eq_true, decide_eq_true_eq] at h
      omega
    · split at h
      · omega
      · simp only [Bool.and_eq_true, decide_eq_true_eq] at h
        omega
theorem aheadT_iff {u t : Td} : aheadT u t = true ↔ ltP u.1 t.1 = true ∨ (u.1 = t.1 ∧ betP u.2 t.2 = true) := by
  unfold aheadT
  rw [Bool.or_eq_true, Bool.and_eq_true, decide_eq_true_eq]
theorem aheadT_irrefl (t : Td) : aheadT t t = false := by
  unfold aheadT
  rw [ltP_irrefl, betP_irrefl]
  simp
theorem aheadT_trans {t u v : Td} (h : aheadT t u = true) (k : aheadT u v = true) : aheadT t v = true := by
  rw [aheadT_iff] at *
  rcases h with h | ⟨h1, h2⟩
  · rcases k with k | ⟨k1, k2⟩
    · exact .inl (ltP_trans h k)
    · exact .inl (k1 ▸ h)
  · rcases k with k | ⟨k1, k2⟩
    · exact .inl (h1 ▸ k)
    · exact .inr ⟨h1.trans k1, betP_trans h2 k2⟩
theorem aheadT_asymm {t u : Td} (h : aheadT t u = true) : aheadT u t = false := by
  cases k : aheadT u t with
  | false => rfl
  | true => have := aheadT_trans h k; rw [aheadT_irrefl] at this; cases this
theorem aheadT_total {u t : Td} (hu : mayP cls u.1 u.2 = true) (ht : mayP cls t.1 t.2 = true) (h : u ≠ t) : aheadT u t = true ∨ aheadT t u = true := by
  obtain ⟨u1, u2, u3, _⟩ := mayP_facts hu
  obtain ⟨t1, t2, t3, _⟩ := mayP_facts ht
  rw [aheadT_iff, aheadT_iff]
  by_cases e : u.1 = t.1
  · have hne : u.2 ≠ t.2 := fun k => h (Prod.ext e k)
    rcases betP_total ⟨u2, u3⟩ ⟨t2, t3⟩ hne with k | k
    · exact .inl (.inr ⟨e, k⟩)
    · exact .inr (.inr ⟨e.symm, k⟩)
  · rcases ltP_total u1 t1 e with k | k
    · exact .inl (.inl k)
    · exact .inr (.inl k)
/-! what is put in its place -/
theorem insT_perm (t : Td) : ∀ L, (insT t L).Perm (t :: L)
  | [] => List.Perm.refl _
  | u :: r => by
    rw [insT]
    split
    · exact ((insT_perm t r).cons u).trans (List.Perm.swap _ _ _)
    · exact List.Perm.refl _
theorem mem_insT {t u : Td} {L : List Td} : u ∈ insT t L ↔ u = t ∨ u ∈ L := by
  rw [(insT_perm t L).mem_iff, List.mem_cons]
theorem insT_filter {f : Td → Bool} {t : Td} (h : f t = false) : ∀ L, (insT t L).filter f = L.filter f
  | [] => by simp [insT, h]
  | u :: r => by
    rw [insT]
    split
    · rw [List.filter_cons, List.filter_cons, insT_filter h r]
    · rw [List.filter_cons, h]
      simp
theorem insT_up {t : Td} : ∀ {L : List Td}, L.Pairwise (fun u v => aheadT u v = true) → (∀ u ∈ L, aheadT u t = true ∨ aheadT t u = true) → (insT t L).Pairwise (fun u v => aheadT u v = true)
  | [], _, _ => by simp [insT]
  | u :: r, h, k => by
    obtain ⟨h1, h2⟩ := List.pairwise_cons.1 h
    rw [insT]
    split
    · rename_i hu
      refine List.pairwise_cons.2 ⟨fun v hv => ?_, insT_up h2 fun v hv => k v (List.mem_cons_of_mem _ hv)⟩
      rcases mem_insT.1 hv with rfl | hv
      · exact hu
      · exact h1 v hv
    · rename_i hu
      have htu : aheadT t u = true := (k u List.mem_cons_self).resolve_left hu
      refine List.pairwise_cons.2 ⟨fun v hv => ?_, h⟩
      rcases List.mem_cons.1 hv with rfl | hv
      · exact htu
      · exact aheadT_trans htu (h1 v hv)
/-- What stands ahead of it, what behind. -/
theorem insT_split (t : Td) : ∀ L : List Td, ∃ k, k ≤ L.length ∧ insT t L = L.take k ++ t :: L.drop k ∧ (∀ (i : Nat) (u : Td), i < k → L[i]? = some u → aheadT u t = true) ∧ (∀ u, L[k]? = some u → aheadT u t = false)
  | [] => ⟨0, Nat.le_refl _, rfl, fun i u h => absurd h (by omega), fun u h => by simp at h⟩
  | u :: r => by
    rw [insT]
    split
    · rename_i hu
      obtain ⟨k, h1, h2, h3, h4⟩ := insT_split t r
      refine ⟨k + 1, by simp only [List.length_cons]; omega, by rw [h2]; rfl, fun i v hi hv => ?_, fun v hv => h4 v (by simpa using hv)⟩
      cases i with
      | zero =>
        simp only [List.getElem?_cons_zero, Option.some.injEq] at hv
        exact hv ▸ hu
      | succ i => exact h3 i v (by omega) (by simpa using hv)
    · rename_i hu
      refine ⟨0, by omega, rfl, fun i u h => absurd h (by omega), fun v hv => ?_⟩
      simp only [List.getElem?_cons_zero, Option.some.injEq] at hv
      subst hv
      simpa using hu
/-! the paths to a prefix -/
theorem mem_pathsT {L : List Td} {p : Px} {x : Pa} : x ∈ pathsT L p ↔ (p, x) ∈ L := by
  unfold pathsT
  rw [List.mem_map]
  constructor
  · rintro ⟨u, hu, rfl⟩
    obtain ⟨h1, h2⟩ := List.mem_filter.1 hu
    have := of_decide_eq_true h2
    rw [← this]
    exact h1
  · intro h
    exact ⟨(p, x), List.mem_filter.2 ⟨h, decide_eq_true rfl⟩, rfl⟩
theorem pathsT_cons (u : Td) (L : List Td) (p : Px) : pathsT (u :: L) p = if u.1 = p then u.2 :: pathsT L p else pathsT L p := by
  unfold pathsT
  rw [List.filter_cons]
  by_cases h : u.1 = p
  · rw [if_pos h, if_pos (decide_eq_true h)]; rfl
  · rw [if_neg h, if_neg (by simpa using h)]
theorem pathsT_ins_ne {t : Td} {p : Px} (h : t.1 ≠ p) (L : List Td) : pathsT (insT t L) p = pathsT L p := by
  unfold pathsT
  rw [insT_filter (decide_eq_false h)]
theorem pathsT_perm {L L' : List Td} (h : L.Perm L') (p : Px) : (pathsT L p).Perm (pathsT L' p) := (h.filter _).map _
theorem pathsT_up {L : List Td} (h : L.Pairwise fun u v => aheadT u v = true) (p : Px) : (pathsT L p).Pairwise fun x y => betP x y = true := by
  unfold pathsT
  rw [List.pairwise_map]
  refine ((h.filter _).imp_of_mem ?_)
  intro u v hu hv k
  have e1 := of_decide_eq_true (List.mem_filter.1 hu).2
  have e2 := of_decide_eq_true (List.mem_filter.1 hv).2
  rcases aheadT_iff.1 k with k | ⟨_, k⟩
  · rw [e1, e2, ltP_irrefl] at k
    cases k
  · exact k
theorem pathsT_filter (L : List Td) (f : Td → Bool) (p : Px) : pathsT (L.filter f) p = (pathsT L p).filter fun x => f (p, x) := by
  induction L with
  | nil => rfl
  | cons u r ih =>
    rw [List.filter_cons, pathsT_cons]
    by_cases h : u.1 = p
    · rw [if_pos h, List.filter_cons]
      have e : (p, u.2) = u := Prod.ext h.symm rfl
      rw [e]
      cases hf : f u with
      | true => rw [if_pos rfl, if_pos rfl, pathsT_cons, if_pos h, ih]
      | false => rw [if_neg (by simp), if_neg (by simp), ih]
    · rw [if_neg h]
      cases hf : f u with
      | true => rw [if_pos rfl, pathsT_cons, if_neg h, ih]
      | false => rw [if_neg (by simp), ih]
theorem pathsT_nil {p : Px} : pathsT [] p = [] := rfl
/-- Two lists of the same, of which none stands behind a worse one, are the same. -/
theorem sorted_same {l r : List Pa} (hp : l.Perm r) (hl : l.Pairwise fun x y => betP y x = false) (hr : r.Pairwise fun x y => betP x y = true) : l = r := by
  have hnd : r.Pairwise fun x y => x ≠ y := hr.imp fun h e => by rw [e, betP_irrefl] at h; cases h
  refine List.Perm.eq_of_pairwise (le := fun x y => betP y x = false) (fun a b ha hb h1 h2 => ?_) hl (hr.imp fun h => betP_asymm h) hp
  have ha' := hp.mem_iff.1 ha
  apply Classical.byContradiction
  intro hne
  obtain ⟨i, hi⟩ := List.getElem?_of_mem ha'
  obtain ⟨j, hj⟩ := List.getElem?_of_mem hb
  obtain ⟨hi1, hi2⟩ := List.getElem?_eq_some_iff.1 hi
  obtain ⟨hj1, hj2⟩ := List.getElem?_eq_some_iff.1 hj
  rw [List.pairwise_iff_getElem] at hr
  rcases Nat.lt_trichotomy i j with h | h | h
  · have := hr i j hi1 hj1 h
    rw [hi2, hj2, h2] at this
    cases this
  · subst h
    exact hne (hi2.symm.trans hj2)
  · have := hr j i hj1 hi1 h
    rw [hi2, hj2, h1] at this
    cases this
/-! the prefixes -/
theorem prefsT_cons2 (u v : Td) (r : List Td) : prefsT (u :: v :: r) = if u.1 = v.1 then prefsT (v :: r) else u.1 :: prefsT (v :: r) := rfl
theorem mem_prefsT {p : Px} : ∀ {L : List Td}, p ∈ prefsT L ↔ ∃ x, (p, x) ∈ L
  | [] => by simp [prefsT]
  | [u] => by
    simp only [prefsT, List.mem_singleton]
    constructor
    · rintro rfl; exact ⟨u.2, rfl⟩
    · rintro ⟨x, h⟩; rw [← h]
  | u :: v :: r => by
    have ih := mem_prefsT (p := p) (L := v :: r)
    rw [prefsT_cons2]
    split
    · rename_i e
      rw [ih]
      constructor
      · rintro ⟨x, h⟩; exact ⟨x, List.mem_cons_of_mem _ h⟩
      · rintro ⟨x, h⟩
        rcases List.mem_cons.1 h with h | h
        · refine ⟨v.2, ?_⟩
          have : p = v.1 := by rw [← e, ← h]
          rw [this]
          exact List.mem_cons_self
        · exact ⟨x, h⟩
    · rw [List.mem_cons, ih]
      constructor
      · rintro (rfl | ⟨x, h⟩)
        · exact ⟨u.2, List.mem_cons_self⟩
        · exact ⟨x, List.mem_cons_of_mem _ h⟩
      · rintro ⟨x, h⟩
        rcases List.mem_cons.1 h with h | h
        · exact .inl (by rw [← h])
        · exact .inr ⟨x, h⟩
theorem prefsT_up : ∀ {L : List Td}, L.Pairwise (fun u v => aheadT u v = true) → (prefsT L).Pairwise fun p q => ltP p q = true
  | [], _ => by simp [prefsT]
  | [u], _ => by simp [prefsT]
  | u :: v :: r, h => by
    obtain ⟨h1, h2⟩ := List.pairwise_cons.1 h
    have ih := prefsT_up h2
    rw [prefsT_cons2]
    split
    · exact ih
    · rename_i hne
      refine List.pairwise_cons.2 ⟨fun p hp => ?_, ih⟩
      obtain ⟨x, hx⟩ := mem_prefsT.1 hp
      have huv : ltP u.1 v.1 = true := by
        rcases aheadT_iff.1 (h1 v List.mem_cons_self) with k | ⟨k, _⟩
        · exact k
        · exact absurd k hne
      rcases List.mem_cons.1 hx with hx | hx
      · rw [show p = v.1 by rw [← hx]]
        exact huv
      · rcases aheadT_iff.1 ((List.pairwise_cons.1 h2).1 _ hx) with k | ⟨k, _⟩
        · exact ltP_trans huv k
        · simp only at k
          rw [← k]
          exact huv
theorem prefsT_nodup {L : List Td} (h : L.Pairwise fun u v => aheadT u v = true) : (prefsT L).Nodup :=
  (prefsT_up h).imp fun k e => by rw [e, ltP_irrefl] at k; cases k
theorem paths_prefs {L : List Td} {p : Px} : pathsT L p ≠ [] ↔ p ∈ prefsT L := by
  rw [mem_prefsT]
  constructor
  · intro h
    obtain ⟨x, hx⟩ := List.exists_mem_of_ne_nil _ h
    exact ⟨x, mem_pathsT.1 hx⟩
  · rintro ⟨x, hx⟩ e
    have := mem_pathsT.2 hx
    rw [e] at this
    cases this
/-! the ways -/
theorem sameW_refl (x : Pa) : sameW x x = true := by simp [sameW]
theorem sameW_iff {x y : Pa} : sameW x y = true ↔ x.proto = y.proto ∧ x.via = y.via ∧ x.port = y.port ∧ x.away = y.away := by
  simp [sameW, and_assoc]
theorem sameW_comm (x y : Pa) : sameW x y = sameW y x := by
  rw [Bool.eq_iff_iff, sameW_iff, sameW_iff]
  constructor <;> rintro ⟨a, b, c, d⟩ <;> exact ⟨a.symm, b.symm, c.symm, d.symm⟩
theorem sameW_trans {x y z : Pa} (h : sameW x y = true) (k : sameW y z = true) : sameW x z = true := by
  rw [sameW_iff] at *
  exact ⟨h.1.trans k.1, h.2.1.trans k.2.1, h.2.2.1.trans k.2.2.1, h.2.2.2.trans k.2.2.2⟩
theorem any_way {L : List Td} {p : Px} {x : Pa} : L.any (wayT p x) = (pathsT L p).any (sameW x) := by
  rw [Bool.eq_iff_iff, List.any_eq_true, List.any_eq_true]
  constructor
  · rintro ⟨u, hu, hw⟩
    unfold wayT at hw
    rw [Bool.and_eq_true, decide_eq_true_eq] at hw
    exact ⟨u.2, mem_pathsT.2 (by rw [← hw.1]; exact hu), hw.2⟩
  · rintro ⟨y, hy, hw⟩
    exact ⟨(p, y), mem_pathsT.1 hy, by simp [wayT, hw]⟩
theorem paths_one {L : List Td} (h : L.Pairwise fun u v => ¬ (u.1 = v.1 ∧ sameW u.2 v.2 = true)) (p : Px) : (pathsT L p).Pairwise fun x y => sameW x y = false := by
  unfold pathsT
  rw [List.pairwise_map]
  refine ((h.filter _).imp_of_mem ?_)
  intro u v hu hv k
  have e1 := of_decide_eq_true (List.mem_filter.1 hu).2
  have e2 := of_decide_eq_true (List.mem_filter.1 hv).2
  cases e : sameW u.2 v.2 with
  | false => rfl
  | true => exact absurd ⟨e1.trans e2.symm, e⟩ k
/-- Where one of the same way stands, and there alone: without it. -/
theorem filter_way {l : List Pa} (h : l.Pairwise fun x y => sameW x y = false) {x : Pa} : ∀ {i : Nat} {y : Pa}, l[i]? = some y → sameW x y = true → (l.filter fun z => !sameW x z) = l.eraseIdx i := by
  induction l with
  | nil => intro i y hi; simp at hi
  | cons a r ih =>
    obtain ⟨h1, h2⟩ := List.pairwise_cons.1 h
    intro i y hi hw
    cases i with
    | zero =>
      simp only [List.getElem?_cons_zero, Option.some.injEq] at hi
      subst hi
      rw [List.filter_cons, hw]
      simp only [Bool.not_true, Bool.false_eq_true, if_false, List.eraseIdx_cons_zero]
      refine List.filter_eq_self.2 fun z hz => ?_
      cases e : sameW x z with
      | false => rfl
      | true =>
        rw [sameW_comm] at hw
        have := h1 z hz
        rw [sameW_trans hw e] at this
        cases this
    | succ i =>
      simp only [List.getElem?_cons_succ] at hi
      have hna : sameW x a = false := by
        cases e : sameW x a with
        | false => rfl
        | true =>
          rw [sameW_comm] at e
          have := h1 y (List.mem_of_getElem? hi)
          rw [sameW_trans e hw] at this
          cases this
      rw [List.filter_cons, hna]
      simp only [Bool.not_false, if_true, List.eraseIdx_cons_succ]
      rw [ih h2 hi hw]
theorem filter_no {l : List Pa} {x : Pa} (h : l.any (sameW x) = false) : (l.filter fun z => !sameW x z) = l := by
  refine List.filter_eq_self.2 fun z hz => ?_
  rw [List.any_eq_false] at h
  simpa using h z hz
end Go.Proofs.YtnklbeigikcfkaaGreatDoor
