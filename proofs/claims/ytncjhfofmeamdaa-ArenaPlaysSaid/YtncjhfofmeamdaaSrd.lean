/- What is taken, by its places: plain laws. -/
import Derived.Test.YtncjhfofmeamdaaRefusesWalk
namespace Go.Proofs.Ytncjhfofmeamdaa
open Go.RowKit

def srt (T : Tk) : Tk := T.mergeSort fun p q => decide (p.1 ≤ q.1)
theorem srt_perm (T : Tk) : (srt T).Perm T := List.mergeSort_perm T _
theorem srt_le (T : Tk) : (srt T).Pairwise fun p q => p.1 ≤ q.1 :=
  (List.pairwise_mergeSort (fun a b c h1 h2 => by simp at h1 h2 ⊢; omega) (fun a b => by simp; omega) T).imp fun h => by simpa using h
theorem srt_fst (T : Tk) : sortL (T.map (·.1)) = (srt T).map (·.1) := sortL_eq ((srt_perm T).map _) (List.pairwise_map.2 (srt_le T))
theorem srt_dis {n : Nat} {T : Tk} (h : TOk n T) : (srt T).Pairwise fun p q => p.1 + 2 ^ p.2 ≤ q.1 := by
  have h1 : (srt T).Pairwise fun p q => Dis p.1 p.2 q.1 q.2 := (srt_perm T).symm.pairwise h.dis fun h => h.symm
  refine ((srt_le T).and h1).imp ?_
  rintro p q ⟨h2, h3⟩
  have := p2 q.2
  unfold Dis at h3
  omega
theorem sizes_perm {T U : Tk} (h : T.Perm U) : sizes T = sizes U := perm_sum (h.map _)
theorem sizes_take {L : Tk} {j : Nat} {p : Nat × Nat} (h : L[j]? = some p) : sizes (L.take (j + 1)) = sizes (L.take j) + 2 ^ p.2 := by
  rw [List.take_add_one, h]
  simp [sizes]
/-- Where the first j blocks end. -/
def endAt (L : Tk) : Nat → Nat
  | 0 => 0
  | j + 1 => (L[j]?.map fun p => p.1 + 2 ^ p.2).getD 0
theorem endAt_succ {L : Tk} {j : Nat} {p : Nat × Nat} (hp : L[j]? = some p) : endAt L (j + 1) = p.1 + 2 ^ p.2 := by
  show (L[j]?.map fun p => p.1 + 2 ^ p.2).getD 0 = _
  rw [hp]; rfl
theorem endAt_le {L : Tk} (h : L.Pairwise fun p q => p.1 + 2 ^ p.2 ≤ q.1) {j : Nat} {p : Nat × Nat} (hp : L[j]? = some p) : endAt L j ≤ p.1 := by
  cases j with
  | zero => exact Nat.zero_le _
  | succ j =>
    obtain ⟨hj, rfl⟩ := List.getElem?_eq_some_iff.1 hp
    rw [endAt_succ (List.getElem?_eq_getElem (show j < L.length by omega))]
    exact List.pairwise_iff_getElem.1 h j (j + 1) (by omega) hj (by omega)
theorem endAt_top {L : Tk} {N : Nat} (h : ∀ p, p ∈ L → p.1 + 2 ^ p.2 ≤ N) : ∀ j, endAt L j ≤ N
  | 0 => Nat.zero_le _
  | j + 1 => by
    cases hp : L[j]? with
    | some p => rw [endAt_succ hp]; exact h p (List.mem_of_getElem? hp)
    | none =>
      show (L[j]?.map fun p => p.1 + 2 ^ p.2).getD 0 ≤ N
      rw [hp]; exact Nat.zero_le _
theorem Liv.sizes_le {w : World} {S : Nat → Prop} {b n : Nat} {T : Tk} (h : Liv w S b n T) : sizes T ≤ 2 ^ n := by
  obtain ⟨_, _, m, fb, A, c, f, _, _, h5, _⟩ := h
  omega
end Go.Proofs.Ytncjhfofmeamdaa
