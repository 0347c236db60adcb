/- Which prefixes of a right row hold an address; a path away by its place. -/
import Derived.Test.YtnklbeigikcfkaaGreatDoorRp3
import Derived.Test.YtnklbeigikcfkaaGreatDoorOf
namespace Go.Proofs.YtnklbeigikcfkaaGreatDoor
variable {cls : Ad → Int}
def overT (L : List Td) (a : Ad) : List Px := ((prefsT L).filter fun p => holdsP p a).reverse
/-- Those of fewer than so many bits, the longest first. -/
def dnT (L : List Td) (a : Ad) : Nat → List Px
  | 0 => []
  | n + 1 => if (ofP a (n : Int)).2 = 0 ∧ pathsT L (ofP a (n : Int)).1 ≠ [] then (ofP a (n : Int)).1 :: dnT L a n else dnT L a n
theorem ofP_zero {a : Ad} {k : Nat} (h : (ofP a (k : Int)).2 = 0) : ofP a (k : Int) = (⟨cutA a k, k⟩, 0) ∧ validA a = true ∧ k ≤ widthA a := by
  unfold ofP at *
  split
  · rename_i hc
    exact ⟨rfl, hc.1, by omega⟩
  · rename_i hc
    rw [if_neg hc] at h
    cases h
theorem mem_dnT {L : List Td} {a : Ad} {p : Px} : ∀ {n : Nat}, p ∈ dnT L a n ↔ ∃ k : Nat, k < n ∧ (ofP a (k : Int)).2 = 0 ∧ (ofP a (k : Int)).1 = p ∧ pathsT L p ≠ []
  | 0 => by simp [dnT]
  | n + 1 => by
    have ih := mem_dnT (L := L) (a := a) (p := p) (n := n)
    rw [dnT]
    split
    · rename_i hc
      rw [List.mem_cons, ih]
      constructor
      · rintro (rfl | ⟨k, h1, h2⟩)
        · exact ⟨n, by omega, hc.1, rfl, hc.2⟩
        · exact ⟨k, by omega, h2⟩
      · rintro ⟨k, h1, h2, h3, h4⟩
        by_cases e : k = n
        · subst e
          exact .inl h3.symm
        · exact .inr ⟨k, by omega, h2, h3, h4⟩
    · rename_i hc
      rw [ih]
      constructor
      · rintro ⟨k, h1, h2⟩
        exact ⟨k, by omega, h2⟩
      · rintro ⟨k, h1, h2, h3, h4⟩
        by_cases e : k = n
        · subst e
          exact absurd ⟨h2, h3 ▸ h4⟩ hc
        · exact ⟨k, by omega, h2, h3, h4⟩
theorem cut_mono {a : Ad} (ho : a.ok) {m k : Nat} (hmk : m ≤ k) (hk : k ≤ widthA a) : num (cutA a m) ≤ num (cutA a k) := by
  rw [cut_num ho (by omega), cut_num ho hk]
  have e : widthA a - m = (widthA a - k) + (k - m) := by omega
  rw [e, Nat.pow_add, ← Nat.div_div_eq_div_mul]
  have h := Nat.div_mul_le_self (num a / 2 ^ (widthA a - k)) (2 ^ (k - m))
  calc num a / 2 ^ (widthA a - k) / 2 ^ (k - m) * (2 ^ (widthA a - k) * 2 ^ (k - m)) = num a / 2 ^ (widthA a - k) / 2 ^ (k - m) * 2 ^ (k - m) * 2 ^ (widthA a - k) := by rw [Nat.mul_comm (2 ^ (widthA a - k)), Nat.mul_assoc]
    _ ≤ num a / 2 ^ (widthA a - k) * 2 ^ (widthA a - k) := Nat.mul_le_mul_right _ h
theorem of_lt {a : Ad} (ho : a.ok) {m k : Nat} (hmk : m < k) (hk : k ≤ widthA a) (hva : validA a = true) (h1 : validP ⟨cutA a m, m⟩ = true) (h2 : validP ⟨cutA a k, k⟩ = true) : ltP ⟨cutA a m, m⟩ ⟨cutA a k, k⟩ = true := by
  rw [ltP_iff]
  refine ⟨h1, h2, ?_⟩
  have hs : (cutA a m).six = (cutA a k).six := by rw [cut_six, cut_six]
  have v1 := cut_valid hva (m : Int)
  have v2 := cut_valid hva (k : Int)
  have o1 := cut_ok ho (m : Int)
  have o2 := cut_ok ho (k : Int)
  rcases Nat.lt_or_ge (num (cutA a m)) (num (cutA a k)) with h | h
  · exact .inl ((ltA_num o1 o2 v1 v2 hs).2 h)
  · exact .inr ⟨num_inj o1 o2 v1 v2 hs (Nat.le_antisymm (cut_mono ho (by omega) hk) h), by simp only; omega⟩
theorem holds_of {a : Ad} {p : Px} (hv : validP p = true) : holdsP p a = true ↔ ∃ k : Nat, k < 129 ∧ (ofP a (k : Int)).2 = 0 ∧ (ofP a (k : Int)).1 = p := by
  have hb : 0 ≤ p.bits ∧ p.bits ≤ widthA p.ad := by
    unfold validP at hv
    simp only [Bool.and_eq_true, decide_eq_true_eq] at hv
    exact ⟨hv.1.1.2, hv.1.2⟩
  have hw : widthA p.ad ≤ 128 := by unfold widthA; split <;> omega
  unfold holdsP
  simp only [Bool.and_eq_true, decide_eq_true_eq]
  constructor
  · rintro ⟨⟨⟨_, h2⟩, h3⟩, h4⟩
    have e : ((p.bits.toNat : Nat) : Int) = p.bits := by omega
    have hwa : widthA a = widthA p.ad := by unfold widthA; rw [h3]
    refine ⟨p.bits.toNat, by omega, ?_⟩
    unfold ofP
    rw [if_pos ⟨h2, by omega, by omega⟩, e, h4]
    exact ⟨rfl, rfl⟩
  · rintro ⟨k, h1, h2, h3⟩
    obtain ⟨e, hva, hk⟩ := ofP_zero h2
    rw [e] at h3
    subst h3
    exact ⟨⟨⟨hv, hva⟩, cut_six _ _⟩, rfl⟩
theorem dnT_over {L : List Td} (h : RowT cls L) {a : Ad} (ho : a.ok) : dnT L a 129 = overT L a := by
  have hL : ∀ p, pathsT L p ≠ [] → validP p = true := fun p hp => by
    obtain ⟨x, hx⟩ := List.exists_mem_of_ne_nil _ hp
    exact (mayP_facts (h.may _ (mem_pathsT.1 hx))).1
  have hdn : ∀ n, n ≤ 129 → (dnT L a n).Pairwise fun p q => ltP q p = true := by
    intro n
    induction n with
    | zero => intro _; simp [dnT]
    | succ n ih =>
      intro hn
      rw [dnT]
      split
      · rename_i hc
        refine List.pairwise_cons.2 ⟨fun q hq => ?_, ih (by omega)⟩
        obtain ⟨k, k1, k2, k3, k4⟩ := mem_dnT.1 hq
        obtain ⟨e1, hva, hw⟩ := ofP_zero hc.1
        obtain ⟨e2, _, _⟩ := ofP_zero k2
        rw [e1] at hc ⊢
        rw [e2] at k3
        subst k3
        exact of_lt ho k1 hw hva (hL _ k4) (hL _ hc.2)
      · exact ih (by omega)
  unfold overT
  rw [← List.reverse_eq_iff]
  have h1 : (dnT L a 129).reverse.Pairwise fun p q => ltP p q = true := List.pairwise_reverse.2 (hdn 129 (by omega))
  have h2 : ((prefsT L).filter fun p => holdsP p a).Pairwise fun p q => ltP p q = true := (prefsT_up h.up).filter _
  have nd : ∀ {l : List Px}, l.Pairwise (fun p q => ltP p q = true) → l.Nodup := fun h => h.imp fun k e => by rw [e, ltP_irrefl] at k; cases k
  refine List.Perm.eq_of_pairwise (le := fun p q => ltP p q = true) (fun p q _ _ k1 k2 => ?_) h1 h2 ((List.perm_ext_iff_of_nodup (nd h1) (nd h2)).2 fun p => ?_)
  · have := ltP_trans k1 k2
    rw [ltP_irrefl] at this
    cases this
  · rw [List.mem_reverse, mem_dnT, List.mem_filter, ← paths_prefs]
    constructor
    · rintro ⟨k, k1, k2, k3, k4⟩
      exact ⟨k4, (holds_of (hL p k4)).2 ⟨k, k1, k2, k3⟩⟩
    · rintro ⟨k4, k5⟩
      obtain ⟨k, k1, k2, k3⟩ := (holds_of (hL p k4)).1 k5
      exact ⟨k, k1, k2, k3, k4⟩
/-- Where one of the way stands, and there alone: the row without it. -/
theorem noW_erase {p : Px} {x : Pa} : ∀ {L : List Td}, L.Pairwise (fun u v => ¬ (u.1 = v.1 ∧ sameW u.2 v.2 = true)) → ∀ {i : Nat} {u : Td}, L[i]? = some u → wayT p x u = true → noW p x L = L.eraseIdx i
  | [], _, i, u, hi, _ => by simp at hi
  | a :: r, h, i, u, hi, hw => by
    obtain ⟨h1, h2⟩ := List.pairwise_cons.1 h
    have two : ∀ {v w : Td}, wayT p x v = true → wayT p x w = true → v.1 = w.1 ∧ sameW v.2 w.2 = true := by
      intro v w hv hw
      unfold wayT at hv hw
      simp only [Bool.and_eq_true, decide_eq_true_eq] at hv hw
      exact ⟨hv.1.trans hw.1.symm, sameW_trans (by rw [sameW_comm]; exact hv.2) hw.2⟩
    cases i with
    | zero =>
      simp only [List.getElem?_cons_zero, Option.some.injEq] at hi
      subst hi
      unfold noW
      rw [List.filter_cons, hw]
      simp only [Bool.not_true, Bool.false_eq_true, if_false, List.eraseIdx_cons_zero]
      refine List.filter_eq_self.2 fun z hz => ?_
      cases e : wayT p x z with
      | false => rfl
      | true => exact absurd (two hw e) (h1 z hz)
    | succ i =>
      simp only [List.getElem?_cons_succ] at hi
      have hna : wayT p x a = false := by
        cases e : wayT p x a with
        | false => rfl
        | true => exact absurd (two e hw) (h1 u (List.mem_of_getElem? hi))
      have ih := noW_erase h2 hi hw
      unfold noW at ih ⊢
      rw [List.filter_cons, hna]
      simp only [Bool.not_false, if_true, List.eraseIdx_cons_succ]
      rw [ih]
end Go.Proofs.YtnklbeigikcfkaaGreatDoor
