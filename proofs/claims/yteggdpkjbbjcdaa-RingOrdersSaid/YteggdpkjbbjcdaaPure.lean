/- Plain facts on rows that go round: what stands where behind a push and a pop. -/
import Derived.Test.YteggdpkjbbjcdaaBase
namespace Go.Proofs.Yteggdpkjbbjcdaa

theorem mod_ne {o i j m : Nat} (h : i < j) (hj : j < i + m) : (o + i) % m ≠ (o + j) % m := by
  intro e
  have h1 : (o + j - (o + i)) % m = 0 := Nat.sub_mod_eq_zero_of_mod_eq e.symm
  have h2 : o + j - (o + i) = j - i := by omega
  rw [h2, Nat.mod_eq_of_lt (by omega)] at h1
  omega

theorem ring_push {α : Type} {cs : Array α} {xs : List α} {o m : Nat} {v : α} (hsz : cs.size = m) (hlt : xs.length < m) (hx : ∀ j, j < xs.length → cs[(o + j) % m]? = xs[j]?) :
    ∀ j, j < (xs ++ [v]).length → (cs.setIfInBounds ((o + xs.length) % m) v)[(o + j) % m]? = (xs ++ [v])[j]? := by
  intro j hj
  simp only [List.length_append, List.length_cons, List.length_nil] at hj
  have hp : (o + xs.length) % m < cs.size := by rw [hsz]; exact Nat.mod_lt _ (by omega)
  rcases Nat.lt_or_ge j xs.length with h | h
  · rw [Array.getElem?_setIfInBounds_ne (Ne.symm (mod_ne h (by omega))), hx j h, List.getElem?_append_left h]
  · obtain rfl : j = xs.length := by omega
    rw [Array.getElem?_setIfInBounds_self_of_lt hp]
    simp

theorem ring_pop {α : Type} {cs : Array α} {xs : List α} {o m : Nat} {v x : α} (hle : xs.length + 1 ≤ m) (hx : ∀ j, j < (x :: xs).length → cs[(o + j) % m]? = (x :: xs)[j]?) :
    ∀ j, j < xs.length → (cs.setIfInBounds (o % m) v)[(o + 1 + j) % m]? = xs[j]? := by
  intro j hj
  have h := hx (j + 1) (by simp; omega)
  have h1 : o + 1 + j = o + (j + 1) := by omega
  have h2 : o % m ≠ (o + (j + 1)) % m := mod_ne (i := 0) (by omega) (by omega)
  rw [h1, Array.getElem?_setIfInBounds_ne h2, h]
  simp
end Go.Proofs.Yteggdpkjbbjcdaa
