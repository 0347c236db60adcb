/- Plain lemmas of rows: what goes in, what goes out. -/
import Derived.Test.YtncjhfofmeamdaaRel
import Derived.Test.YtncjhfofmeamdaaGv
import Derived.Test.YtncjhfofmeamdaaSm
namespace Go.Proofs.Ytncjhfofmeamdaa
open Go.RowKit

theorem count_zero {l : List Nat} {x : Nat} (h : ∀ y, y ∈ l → x ≤ y) : l.countP (fun y => decide (y < x)) = 0 := by
  rw [List.countP_eq_zero]
  intro y hy
  have := h y hy
  simp; omega
theorem erase_sorted : ∀ {l : List Nat}, l.Pairwise (· < ·) → ∀ {x : Nat}, x ∈ l → l.countP (fun y => decide (y < x)) < l.length ∧ l.eraseIdx (l.countP fun y => decide (y < x)) = l.filter fun y => !decide (y = x)
  | [], _, _, h => by cases h
  | y :: r, hp, x, h => by
    obtain ⟨h1, h2⟩ := List.pairwise_cons.1 hp
    by_cases e : y = x
    · subst e
      have h0 : (y :: r).countP (fun z => decide (z < y)) = 0 := count_zero fun z hz => by
        rcases List.mem_cons.1 hz with rfl | h3
        · exact Nat.le_refl _
        · exact Nat.le_of_lt (h1 z h3)
      rw [h0]
      refine ⟨by simp, ?_⟩
      rw [List.eraseIdx_cons_zero, List.filter_cons, if_neg (by simp)]
      refine (List.filter_eq_self.2 fun z hz => ?_).symm
      have := h1 z hz
      simp; omega
    · have hx : x ∈ r := (List.mem_cons.1 h).resolve_left fun e' => e e'.symm
      have hyx := h1 x hx
      obtain ⟨h3, h4⟩ := erase_sorted h2 hx
      rw [List.countP_cons_of_pos (by simpa using hyx)]
      refine ⟨by simp only [List.length_cons]; omega, ?_⟩
      rw [List.eraseIdx_cons_succ, h4, List.filter_cons, if_pos (by simpa using e)]
theorem insL_mem (l : List Nat) (x y : Nat) : y ∈ insL l x ↔ y = x ∨ y ∈ l := by
  unfold insL
  conv => rhs; rw [← List.take_append_drop (l.countP fun y => decide (y < x)) l]
  simp only [List.mem_append, List.mem_cons]
  constructor
  · rintro (h | h | h)
    · exact .inr (.inl h)
    · exact .inl h
    · exact .inr (.inr h)
  · rintro (h | h | h)
    · exact .inr (.inl h)
    · exact .inl h
    · exact .inr (.inr h)
theorem insL_sorted : ∀ {l : List Nat}, l.Pairwise (· < ·) → ∀ {x : Nat}, x ∉ l → (insL l x).Pairwise (· < ·)
  | [], _, x, _ => by simp [insL]
  | y :: r, hp, x, h => by
    obtain ⟨h1, h2⟩ := List.pairwise_cons.1 hp
    have hne : x ≠ y := fun e => h (e ▸ List.mem_cons_self ..)
    by_cases e : y < x
    · have h3 := insL_sorted h2 (x := x) fun hx => h (List.mem_cons_of_mem _ hx)
      have h4 : insL (y :: r) x = y :: insL r x := by
        unfold insL
        rw [List.countP_cons_of_pos (by simpa using e)]
        rfl
      rw [h4, List.pairwise_cons]
      refine ⟨fun z hz => ?_, h3⟩
      rcases (insL_mem r x z).1 hz with rfl | h5
      · exact e
      · exact h1 z h5
    · have h0 : (y :: r).countP (fun z => decide (z < x)) = 0 := count_zero fun z hz => by
        rcases List.mem_cons.1 hz with rfl | h3
        · omega
        · have := h1 z h3; omega
      have h4 : insL (y :: r) x = x :: y :: r := by
        unfold insL
        rw [h0]
        rfl
      rw [h4, List.pairwise_cons]
      refine ⟨fun z hz => ?_, hp⟩
      rcases List.mem_cons.1 hz with rfl | h3
      · omega
      · have := h1 z h3; omega
theorem sorted_len : ∀ {l : List Nat}, l.Pairwise (· < ·) → ∀ {lo N : Nat}, lo ≤ N → (∀ x, x ∈ l → lo ≤ x ∧ x < N) → lo + l.length ≤ N
  | [], _, lo, N, h, _ => h
  | y :: r, hp, lo, N, hN, h => by
    obtain ⟨h1, h2⟩ := List.pairwise_cons.1 hp
    have h3 := h y (List.mem_cons_self ..)
    have h4 := sorted_len h2 (lo := y + 1) (N := N) (by omega) fun x hx => ⟨h1 x hx, (h x (List.mem_cons_of_mem _ hx)).2⟩
    simp only [List.length_cons]; omega

/-- Without the block at a. -/
def drop (T : List (Nat × Nat)) (a : Nat) : List (Nat × Nat) := T.filter fun p => decide (p.1 ≠ a)
theorem mkT_drop {T : List (Nat × Nat)} (hk : T.Pairwise fun p q => p.1 ≠ q.1) {i a o : Nat} (h : (mkT T)[i]? = some ((a : Int), o)) : (mkT T).eraseIdx i = mkT (drop T a) := by
  have hk2 : (mkT T).Pairwise fun p q => p.1 ≠ q.1 := by
    unfold mkT
    rw [List.pairwise_map]
    exact hk.imp fun {a b} hab e => hab (Int.ofNat_inj.1 e)
  rw [erase_filter hk2 h]
  unfold mkT drop
  rw [List.filter_map]
  congr 1
  refine List.filter_congr fun p _ => ?_
  simp [Int.ofNat_inj]
theorem drop_mem {T : List (Nat × Nat)} (hk : T.Pairwise fun p q => p.1 ≠ q.1) {a o : Nat} (h : (a, o) ∈ T) (p : Nat × Nat) : p ∈ drop T a ↔ p ∈ T ∧ p ≠ (a, o) := by
  unfold drop
  rw [List.mem_filter]
  refine and_congr_right fun hp => ?_
  simp only [ne_eq, decide_not, Bool.not_eq_eq_eq_not, Bool.not_true, decide_eq_false_iff_not]
  refine not_congr ⟨fun e => ?_, fun e => by rw [e]⟩
  obtain ⟨i, hi, e1⟩ := List.mem_iff_getElem.1 h
  obtain ⟨j, hj, e2⟩ := List.mem_iff_getElem.1 hp
  have hd := List.pairwise_iff_getElem.1 hk
  rcases Nat.lt_trichotomy i j with h6 | h6 | h6
  · exact absurd (by rw [e1, e2]; exact e.symm) (hd i j hi hj h6)
  · subst h6; exact e2.symm.trans e1
  · exact absurd (by rw [e1, e2]; exact e) (hd j i hj hi h6)
theorem TOk.drop {n : Nat} {T : List (Nat × Nat)} (h : TOk n T) (a : Nat) : TOk n (drop T a) :=
  ⟨fun p hp => h.dy p (List.mem_filter.1 hp).1, h.dis.filter _⟩
theorem TOk.keys {n : Nat} {T : List (Nat × Nat)} (h : TOk n T) : T.Pairwise fun p q => p.1 ≠ q.1 := by
  refine h.dis.imp fun {p q} hd e => ?_
  have h1 := p2 p.2
  have h2 := p2 q.2
  unfold Dis at hd
  omega
end Go.Proofs.Ytncjhfofmeamdaa
