/- The sum of the free cells. -/
import Derived.Test.YtncjhfofmeamdaaFre
import Derived.Test.YtncjhfofmeamdaaGp
namespace Go.Proofs.Ytncjhfofmeamdaa
open Go.RowKit

theorem sumF_congr {f g : Nat → List Nat} {n : Nat} (h : ∀ j, j < n → (f j).length = (g j).length) : sumF f n = sumF g n := by
  induction n with
  | zero => rfl
  | succ n ih =>
    unfold sumF
    rw [ih fun j hj => h j (by omega), h n (by omega)]
theorem sumF_upd (f : Nat → List Nat) (k : Nat) (l : List Nat) : ∀ n, k < n → sumF (upd f k l) n + (f k).length * 2 ^ k = sumF f n + l.length * 2 ^ k
  | 0, h => by omega
  | n + 1, h => by
    unfold sumF
    by_cases e : k = n
    · subst e
      rw [upd_same, sumF_congr (f := upd f k l) (g := f) fun j hj => by rw [upd_other _ _ (by omega)]]
      omega
    · have ih := sumF_upd f k l n (by omega)
      rw [upd_other f l (show n ≠ k by omega)]
      omega
theorem take_sum {f : Nat → List Nat} {a o k n : Nat} (hok : o ≤ k) (hkn : k ≤ n) (he : ∀ j, o ≤ j → j < k → f j = []) {r : List Nat} (hk : f k = a :: r) : sumF (take' f a o k) (n + 1) + 2 ^ o = sumF f (n + 1) := by
  obtain ⟨d, hd⟩ : ∃ d, d = k - o := ⟨_, rfl⟩
  induction d generalizing o with
  | zero =>
    obtain rfl : o = k := by omega
    have h1 := sumF_upd f o r (n + 1) (by omega)
    rw [hk, List.length_cons, Nat.add_mul, Nat.one_mul] at h1
    have h2 : upd f o r = take' f a o o := by
      funext j
      unfold upd take'
      by_cases e : j = o
      · subst e; rw [if_pos rfl, if_pos rfl, hk]; rfl
      · rw [if_neg e, if_neg e, if_neg (by omega)]
    rw [← h2]; omega
  | succ d ih =>
    have h1 := ih (o := o + 1) (by omega) (fun j h1 h2 => he j (by omega) h2) (by omega)
    have h2 : upd (take' f a (o + 1) k) o [a + 2 ^ o] = take' f a o k := by
      funext j
      unfold upd take'
      by_cases e : j = o
      · subst e; rw [if_pos rfl, if_neg (by omega), if_pos ⟨Nat.le_refl _, by omega⟩]
      · rw [if_neg e]
        by_cases e2 : j = k
        · rw [if_pos e2, if_pos e2]
        · rw [if_neg e2, if_neg e2]
          by_cases e3 : o + 1 ≤ j ∧ j < k
          · rw [if_pos e3, if_pos (by omega)]
          · rw [if_neg e3, if_neg (by omega)]
    have h3 := sumF_upd (take' f a (o + 1) k) o [a + 2 ^ o] (n + 1) (by omega)
    have h4 : take' f a (o + 1) k o = [] := by
      unfold take'
      rw [if_neg (by omega), if_neg (by omega)]
      exact he o (Nat.le_refl _) (by omega)
    rw [h2, h4] at h3
    have h5 := p2s o
    simp only [List.length_nil, List.length_cons, Nat.zero_mul, Nat.zero_add, Nat.one_mul, Nat.add_zero] at h3
    omega
theorem insL_len (l : List Nat) (x : Nat) : (insL l x).length = l.length + 1 := by
  unfold insL
  have : l.countP (fun y => decide (y < x)) ≤ l.length := List.countP_le_length
  simp; omega
theorem give_sum1 {cur : Nat → List Nat} {k n : Nat} (hk : k ≤ n) {l : List Nat} (hl : l.length + 1 = (cur k).length) : sumF (upd cur k l) (n + 1) + 2 ^ (k + 1) = sumF cur (n + 1) + 2 ^ k := by
  have h1 := sumF_upd cur k l (n + 1) (by omega)
  rw [← hl, Nat.add_mul, Nat.one_mul] at h1
  have h5 := p2s k
  omega
theorem give_sum2 {cur : Nat → List Nat} {k n : Nat} (hk : k ≤ n) {l : List Nat} (hl : l.length = (cur k).length + 1) : sumF (upd cur k l) (n + 1) = sumF cur (n + 1) + 2 ^ k := by
  have h1 := sumF_upd cur k l (n + 1) (by omega)
  rw [hl, Nat.add_mul, Nat.one_mul] at h1
  omega
end Go.Proofs.Ytncjhfofmeamdaa
