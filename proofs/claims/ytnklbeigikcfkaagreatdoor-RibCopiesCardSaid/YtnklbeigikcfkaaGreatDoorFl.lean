/- Rows of elements of several cells, laid one after the other: plain laws; and what an owned slice of them says of its cells. -/
import Derived.Test.YtnklbeigikcfkaaGreatDoorOwn
import Derived.Laws.IdiomCopy
namespace Go.Proofs.YtnklbeigikcfkaaGreatDoor
open Go.RowKit
/-- Elements of k cells each. -/
class Cells (α : Type) (k : outParam Nat) where
  cs : α → List Value
  len : ∀ x, (cs x).length = k
  pos : 0 < k
  one : ∀ x, ∀ v ∈ cs x, v.oneCell' = true
def flat {α : Type} {k : Nat} [Cells α k] (l : List α) : List Value := l.flatMap Cells.cs
section
variable {α : Type} {k : Nat} [C : Cells α k]
theorem flat_nil : flat ([] : List α) = [] := rfl
theorem flat_cons (x : α) (l : List α) : flat (x :: l) = C.cs x ++ flat l := rfl
theorem flat_append (l r : List α) : flat (l ++ r) = flat l ++ flat r := List.flatMap_append
theorem flat_one (x : α) : flat [x] = C.cs x := by simp [flat]
theorem flat_length : ∀ l : List α, (flat l).length = l.length * k
  | [] => by simp [flat]
  | x :: l => by rw [flat_cons, List.length_append, C.len, flat_length l, List.length_cons, Nat.add_mul, Nat.one_mul, Nat.add_comm]
theorem flat_one_cell (l : List α) : ∀ v ∈ flat l, v.oneCell' = true := by
  intro v hv
  obtain ⟨x, _, hx⟩ := List.mem_flatMap.1 hv
  exact C.one x v hx
theorem flat_at : ∀ {l : List α} {j : Nat} {x : α}, l[j]? = some x → ∀ r, r < k → (flat l)[j * k + r]? = (C.cs x)[r]?
  | [], j, x, h, _, _ => by simp at h
  | a :: l, 0, x, h, r, hr => by
    simp only [List.getElem?_cons_zero, Option.some.injEq] at h
    subst h
    rw [flat_cons, Nat.zero_mul, Nat.zero_add, List.getElem?_append_left (by rw [C.len]; exact hr)]
  | a :: l, j + 1, x, h, r, hr => by
    rw [List.getElem?_cons_succ] at h
    rw [flat_cons, List.getElem?_append_right (by rw [C.len, Nat.add_mul]; omega), C.len, ← flat_at h r hr]
    congr 1
    rw [Nat.add_mul]
    omega
theorem flat_take : ∀ (l : List α) (j : Nat), (flat l).take (j * k) = flat (l.take j)
  | [], j => by simp [flat]
  | a :: l, 0 => by simp [flat]
  | a :: l, j + 1 => by
    rw [List.take_succ_cons, flat_cons, flat_cons, ← flat_take l j, List.take_append, C.len, List.take_of_length_le (by rw [C.len, Nat.add_mul]; omega)]
    congr 2
    rw [Nat.add_mul]
    omega
theorem flat_drop : ∀ (l : List α) (j : Nat), (flat l).drop (j * k) = flat (l.drop j)
  | [], j => by simp [flat]
  | a :: l, 0 => by simp
  | a :: l, j + 1 => by
    rw [List.drop_succ_cons, flat_cons, ← flat_drop l j, List.drop_append, C.len, List.drop_of_length_le (by rw [C.len, Nat.add_mul]; omega), List.nil_append]
    congr 1
    rw [Nat.add_mul]
    omega
/-- Cells set one after the other. -/
def setsL (L : List Value) (o : Nat) : List Value → List Value
  | [] => L
  | v :: r => setsL (L.set o v) (o + 1) r
theorem setsL_length : ∀ (vs : List Value) (L : List Value) (o : Nat), (setsL L o vs).length = L.length
  | [], _, _ => rfl
  | v :: r, L, o => by rw [setsL, setsL_length r, List.length_set]
theorem setsL_at : ∀ (vs : List Value) (L : List Value) (o i : Nat), o + vs.length ≤ L.length → (setsL L o vs)[i]? = if o ≤ i ∧ i < o + vs.length then vs[i - o]? else L[i]?
  | [], L, o, i, _ => by
    rw [setsL, if_neg]
    simp only [List.length_nil]
    omega
  | v :: r, L, o, i, h => by
    simp only [List.length_cons] at h ⊢
    rw [setsL, setsL_at r _ _ _ (by rw [List.length_set]; omega)]
    by_cases h1 : o + 1 ≤ i ∧ i < o + 1 + r.length
    · rw [if_pos h1, if_pos (by omega), show i - o = (i - (o + 1)) + 1 by omega, List.getElem?_cons_succ]
    · rw [if_neg h1]
      by_cases h2 : i = o
      · subst h2
        rw [if_pos (by omega), Nat.sub_self, List.getElem?_cons_zero, List.getElem?_set_self (by omega)]
      · rw [if_neg (by omega), List.getElem?_set_ne (by omega)]
theorem flat_set {l : List α} {i : Nat} (hi : i < l.length) (x : α) : setsL (flat l) (i * k) (C.cs x) = flat (l.set i x) := by
  have hp := C.pos
  have hle : i * k + k ≤ l.length * k := by
    have := Nat.mul_le_mul_right k (show i + 1 ≤ l.length from hi)
    rwa [Nat.add_mul, Nat.one_mul] at this
  apply List.ext_getElem?
  intro j
  rw [setsL_at _ _ _ _ (by rw [C.len, flat_length]; exact hle), C.len]
  have hj : j = j / k * k + j % k := by rw [Nat.mul_comm]; exact (Nat.div_add_mod j k).symm
  have hm : j % k < k := Nat.mod_lt _ hp
  generalize j / k = q at hj
  generalize j % k = r at hj hm
  subst hj
  by_cases hq : q < l.length
  · by_cases e : q = i
    · subst e
      rw [if_pos (by omega), flat_at (l := l.set q x) (x := x) (by rw [List.getElem?_set_self hq]) r hm, show q * k + r - q * k = r by omega]
    · rw [if_neg, flat_at (List.getElem?_eq_getElem hq) r hm, flat_at (l := l.set i x) (x := l[q]) (by rw [List.getElem?_set_ne (fun h => e h.symm)]; exact List.getElem?_eq_getElem hq) r hm]
      rintro ⟨h1, h2⟩
      rcases Nat.lt_or_ge q i with h | h
      · have := Nat.mul_le_mul_right k (show q + 1 ≤ i from h)
        rw [Nat.add_mul, Nat.one_mul] at this
        omega
      · have := Nat.mul_le_mul_right k (show i + 1 ≤ q by omega)
        rw [Nat.add_mul, Nat.one_mul] at this
        omega
  · have h1 : l.length * k ≤ q * k := Nat.mul_le_mul_right k (by omega)
    rw [if_neg (by omega), List.getElem?_eq_none (by rw [flat_length]; omega), List.getElem?_eq_none (by rw [flat_length, List.length_set]; omega)]
theorem Own.elem {w : World} {e : TypeId} {g n c : Nat} {l : List α} (h : Own w e k (some ⟨g, 0, none⟩) n c (flat l)) (hn : l.length = n) {j : Nat} {x : α} (hj : l[j]? = some x) (r : Nat) (hr : r < k) : w.cell? ⟨g, j * k + r, none⟩ = (C.cs x)[r]? := by
  have hlt := (List.getElem?_eq_some_iff.1 hj).1
  rw [h.cell (j * k + r) ?_, flat_at hj r hr]
  have := Nat.mul_le_mul_right k (show j + 1 ≤ n by omega)
  rw [Nat.add_mul, Nat.one_mul] at this
  omega
theorem Own.setsC {e : TypeId} {g n c m : Nat} (vs : List Value) : ∀ {w : World} {xs : List Value} (o : Nat), Own w e m (some ⟨g, 0, none⟩) n c xs → Own (w.setCells g o vs) e m (some ⟨g, 0, none⟩) n c (setsL xs o vs) := by
  induction vs with
  | nil => intro w xs o h; exact h
  | cons v r ih => intro w xs o h; exact ih (o + 1) (h.set_ o v)
theorem Fr.setsC {S : Nat → Prop} {g : Nat} (vs : List Value) : ∀ {a w : World} (o : Nat), Fr S a w → (S g ∨ a.heap.size ≤ g) → Fr S a (w.setCells g o vs) := by
  induction vs with
  | nil => intro a w o h _; exact h
  | cons v r ih => intro a w o h hs; exact ih (o + 1) (h.setCell hs v) hs
/-- A whole element stored. -/
theorem Own.put {w : World} {e : TypeId} {g n c : Nat} {l : List α} (h : Own w e k (some ⟨g, 0, none⟩) n c (flat l)) {i : Nat} (hi : i < l.length) (x : α) : Own (w.setCells g (i * k) (C.cs x)) e k (some ⟨g, 0, none⟩) n c (flat (l.set i x)) := by
  rw [← flat_set hi x]
  exact h.setsC (xs := flat l) (w := w) _ _
theorem set_two (u r : List α) (a b : α) {j : Nat} (hj : j = u.length) : ((u ++ a :: b :: r).set (j + 1) a).set j b = u ++ b :: a :: r := by
  subst hj
  rw [List.set_append_right _ _ (by omega), List.set_append_right _ _ (by omega)]
  simp
end
end Go.Proofs.YtnklbeigikcfkaaGreatDoor
