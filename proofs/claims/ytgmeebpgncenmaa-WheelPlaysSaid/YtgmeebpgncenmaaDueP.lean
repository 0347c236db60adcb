/- What the law of the dues keeps: plain laws, and the state in memory. -/
import Derived.Test.YtgmeebpgncenmaaAwake
import Derived.Test.YtgmeebpgncenmaaStp
namespace Go.Proofs.Ytgmeebpgncenmaa
open Go.RowKit

/-- D tells of each id below its length when it is due; below 0: it does not wait. -/
structure DR (D : List Int) (L : List Tm) : Prop where
  of_t : ∀ t, t ∈ L → ∃ i : Nat, t.id = (i : Int) ∧ D[i]? = some (t.due : Int)
  of_i : ∀ (i : Nat) v, D[i]? = some v → v = -1 ∨ ∃ t, t ∈ L ∧ t.id = (i : Int) ∧ v = (t.due : Int)
  ord : L.Pairwise fun x y => x.id < y.id

theorem DR.nil : DR [] [] := ⟨nofun, fun i v h => by simp at h, List.Pairwise.nil⟩
theorem DR.snoc {D : List Int} {L : List Tm} (h : DR D L) : DR (D ++ [-1]) L := by
  refine ⟨fun t ht => ?_, fun i v hv => ?_, h.ord⟩
  · obtain ⟨i, h1, h2⟩ := h.of_t t ht
    refine ⟨i, h1, ?_⟩
    rw [List.getElem?_append_left (List.getElem?_eq_some_iff.1 h2).1]
    exact h2
  · rcases Nat.lt_or_ge i D.length with h1 | h1
    · rw [List.getElem?_append_left h1] at hv
      exact h.of_i i v hv
    · left
      rw [List.getElem?_append_right h1] at hv
      rcases h2 : i - D.length with _ | n
      · rw [h2] at hv; simpa using hv.symm
      · rw [h2] at hv; simp at hv
theorem DR.lt {D : List Int} {L : List Tm} (h : DR D L) {t : Tm} (ht : t ∈ L) : 0 ≤ t.id ∧ t.id < (D.length : Int) := by
  obtain ⟨i, h1, h2⟩ := h.of_t t ht
  have := (List.getElem?_eq_some_iff.1 h2).1
  omega
theorem set_get {D : List Int} {i j : Nat} {v u : Int} (h : (D.set i u)[j]? = some v) : (i = j ∧ v = u) ∨ (i ≠ j ∧ D[j]? = some v) := by
  by_cases e : i = j
  · subst e
    rw [List.getElem?_set_self'] at h
    left
    cases hd : D[i]? with
    | none => rw [hd] at h; cases h
    | some x => rw [hd] at h; simpa using h.symm
  · right
    rw [List.getElem?_set_ne e] at h
    exact ⟨e, h⟩
/-- The next id is added. -/
theorem DR.add {D : List Int} {L : List Tm} (h : DR D L) (due num : Nat) : DR ((D ++ [-1]).set D.length (due : Int)) (L ++ [⟨(D.length : Int), due, num⟩]) := by
  have hs := h.snoc
  refine ⟨fun t ht => ?_, fun i v hv => ?_, ?_⟩
  · rcases List.mem_append.1 ht with h1 | h1
    · obtain ⟨i, h2, h3⟩ := hs.of_t t h1
      have hlt := h.lt h1
      refine ⟨i, h2, ?_⟩
      rw [List.getElem?_set_ne (by omega)]
      exact h3
    · rw [List.mem_singleton] at h1
      subst h1
      exact ⟨D.length, rfl, by rw [List.getElem?_set_self (by simp)]⟩
  · rcases set_get hv with ⟨rfl, rfl⟩ | ⟨h1, h2⟩
    · exact .inr ⟨_, List.mem_append_right _ (List.mem_singleton.2 rfl), rfl, rfl⟩
    · rcases hs.of_i i v h2 with h3 | ⟨t, h3, h4⟩
      · exact .inl h3
      · exact .inr ⟨t, List.mem_append_left _ h3, h4⟩
  · rw [List.pairwise_append]
    refine ⟨h.ord, by simp, fun x hx y hy => ?_⟩
    rw [List.mem_singleton] at hy
    subst hy
    exact (h.lt hx).2
theorem ids_ne {L : List Tm} (h : L.Pairwise fun x y => x.id < y.id) {s t : Tm} (hs : s ∈ L) (ht : t ∈ L) (e : s.id = t.id) : s = t := by
  obtain ⟨i, hi, rfl⟩ := List.mem_iff_getElem.1 hs
  obtain ⟨j, hj, rfl⟩ := List.mem_iff_getElem.1 ht
  rw [List.pairwise_iff_getElem] at h
  rcases Nat.lt_trichotomy i j with hij | rfl | hij
  · have := h i j hi hj hij; omega
  · rfl
  · have := h j i hj hi hij; omega
/-- One is cancelled, or it does not wait. -/
theorem DR.cancel {D : List Int} {L L' : List Tm} (h : DR D L) {k : Nat} {r : Bool} (hr : CanRes L (k : Int) r L') {v : Int} (hv : D[k]? = some v) : r = decide (0 ≤ v) ∧ DR (D.set k (-1)) L' := by
  rcases hr with ⟨rfl, rfl, hn⟩ | ⟨rfl, t, ht, hid, rfl⟩
  · have hv1 : v = -1 := by
      rcases h.of_i k v hv with h1 | ⟨t, h1, h2, _⟩
      · exact h1
      · exact absurd h2 (hn t h1)
    subst hv1
    have e : D.set k (-1) = D := by
      apply List.ext_getElem?
      intro j
      by_cases e : k = j
      · subst e
        rw [List.getElem?_set_self (List.getElem?_eq_some_iff.1 hv).1, hv]
      · rw [List.getElem?_set_ne e]
    exact ⟨by simp, by rw [e]; exact h⟩
  · obtain ⟨i, h1, h2⟩ := h.of_t t ht
    have hik : i = k := by omega
    subst hik
    rw [hv] at h2
    have hvd := Option.some.inj h2
    have hm : ∀ {s : Tm}, s ∈ noT t L ↔ s ∈ L ∧ s ≠ t := fun {s} => by simp [noT]
    refine ⟨by rw [hvd]; simp, fun s hs => ?_, fun j u hu => ?_, h.ord.filter _⟩
    · obtain ⟨h3, h4⟩ := hm.1 hs
      obtain ⟨j, h5, h6⟩ := h.of_t s h3
      refine ⟨j, h5, ?_⟩
      rw [List.getElem?_set_ne (fun e => h4 (ids_ne h.ord h3 ht (by omega)))]
      exact h6
    · rcases set_get hu with ⟨rfl, rfl⟩ | ⟨h3, h4⟩
      · exact .inl rfl
      · rcases h.of_i j u h4 with h5 | ⟨s, h5, h6, h7⟩
        · exact .inl h5
        · exact .inr ⟨s, hm.2 ⟨h5, fun e => by subst e; omega⟩, h6, h7⟩

/-- Of the first j those that are due at n are struck. -/
def clr (D : List Int) (n : Int) (j : Nat) : List Int := D.mapIdx fun i v => if i < j ∧ v = n then -1 else v
theorem clr_len (D : List Int) (n : Int) (j : Nat) : (clr D n j).length = D.length := by simp [clr]
theorem clr_zero (D : List Int) (n : Int) : clr D n 0 = D := by
  apply List.ext_getElem?
  intro i
  simp [clr]
theorem clr_get (D : List Int) (n : Int) (j i : Nat) : (clr D n j)[i]? = (D[i]?).map fun v => if i < j ∧ v = n then -1 else v := by simp [clr]
theorem clr_at {D : List Int} {n v : Int} {j : Nat} (h : D[j]? = some v) : (clr D n j)[j]? = some v := by rw [clr_get, h]; simp
theorem clr_yes {D : List Int} {n : Int} {j : Nat} (h : D[j]? = some n) : (clr D n j).set j (-1) = clr D n (j + 1) := by
  apply List.ext_getElem?
  intro i
  by_cases e : j = i
  · subst e
    rw [List.getElem?_set_self (by rw [clr_len]; exact (List.getElem?_eq_some_iff.1 h).1), clr_get, h]
    simp
  · rw [List.getElem?_set_ne e, clr_get, clr_get]
    congr 1
    funext v
    have : i < j ↔ i < j + 1 := by omega
    simp only [this]
theorem clr_no {D : List Int} {n v : Int} {j : Nat} (h : D[j]? = some v) (hne : v ≠ n) : clr D n (j + 1) = clr D n j := by
  apply List.ext_getElem?
  intro i
  rw [clr_get, clr_get]
  by_cases e : j = i
  · subst e
    rw [h]
    simp [hne]
  · congr 1
    funext v
    have : i < j ↔ i < j + 1 := by omega
    simp only [this]

theorem dueL_mem2 {L : List Tm} {n : Nat} {t : Tm} : t ∈ dueL L n ↔ t ∈ L ∧ t.due = n := by simp [dueL]
theorem leftL_mem2 {L : List Tm} {n : Nat} {t : Tm} : t ∈ leftL L n ↔ t ∈ L ∧ t.due ≠ n := by simp [leftL]
/-- Behind a tick. -/
theorem DR.tick {D : List Int} {L : List Tm} (h : DR D L) (n : Nat) : DR (clr D (n : Int) D.length) (leftL L n) := by
  refine ⟨fun t ht => ?_, fun i v hv => ?_, h.ord.filter _⟩
  · obtain ⟨h1, h2⟩ := leftL_mem2.1 ht
    obtain ⟨i, h3, h4⟩ := h.of_t t h1
    refine ⟨i, h3, ?_⟩
    rw [clr_get, h4]
    have : ¬ ((t.due : Int) = (n : Int)) := by omega
    simp [this]
  · rw [clr_get] at hv
    cases hd : D[i]? with
    | none => rw [hd] at hv; cases hv
    | some u =>
      rw [hd] at hv
      have hlt := (List.getElem?_eq_some_iff.1 hd).1
      simp only [Option.map_some, Option.some.injEq] at hv
      by_cases e : u = (n : Int)
      · rw [if_pos ⟨hlt, e⟩] at hv
        exact .inl hv.symm
      · rw [if_neg (fun h => e h.2)] at hv
        subst hv
        rcases h.of_i i u hd with h1 | ⟨t, h1, h2, h3⟩
        · exact .inl h1
        · exact .inr ⟨t, leftL_mem2.2 ⟨h1, fun e2 => e (by rw [h3, e2])⟩, h2, h3⟩

/-- k of the ids are below j, the others are not. -/
def Part (l : List Int) (k j : Nat) : Prop := k ≤ l.length ∧ (∀ x, x ∈ l.take k → x < (j : Int)) ∧ ∀ x, x ∈ l.drop k → (j : Int) ≤ x
theorem Part.zero {l : List Int} (h : ∀ x, x ∈ l → 0 ≤ x) : Part l 0 0 := ⟨Nat.zero_le _, by simp, fun x hx => h x (by simpa using hx)⟩
theorem Part.yes {l : List Int} {k j : Nat} (h : Part l k j) (ho : l.Pairwise (· < ·)) (hj : (j : Int) ∈ l) : l[k]? = some (j : Int) ∧ Part l (k + 1) (j + 1) := by
  obtain ⟨h1, h2, h3⟩ := h
  have hd : (j : Int) ∈ l.drop k := by
    rw [← List.take_append_drop k l] at hj
    rcases List.mem_append.1 hj with h4 | h4
    · have := h2 _ h4; omega
    · exact h4
  cases hc : l.drop k with
  | nil => rw [hc] at hd; cases hd
  | cons y r =>
    have ho2 : (l.drop k).Pairwise (· < ·) := ho.sublist (List.drop_sublist _ _)
    rw [hc] at hd h3 ho2
    have ho3 := List.pairwise_cons.1 ho2
    have hy : y = (j : Int) := by
      rcases List.mem_cons.1 hd with h4 | h4
      · exact h4.symm
      · have := ho3.1 _ h4
        have := h3 y (by simp)
        omega
    subst hy
    have hk : k < l.length := by
      rcases Nat.lt_or_ge k l.length with h5 | h5
      · exact h5
      · rw [List.drop_eq_nil_of_le h5] at hc; cases hc
    have hlk : l[k]? = some (j : Int) := by
      have := congrArg (fun x => x[0]?) hc
      simpa using this
    refine ⟨hlk, by omega, fun x hx => ?_, fun x hx => ?_⟩
    · rw [List.take_add_one, hlk] at hx
      rcases List.mem_append.1 hx with h4 | h4
      · have := h2 x h4; omega
      · simp at h4; omega
    · have e : l.drop (k + 1) = r := by
        have := congrArg List.tail hc
        rw [List.tail_drop] at this
        exact this
      rw [e] at hx
      have := ho3.1 x hx
      omega
theorem Part.no {l : List Int} {k j : Nat} (h : Part l k j) (hj : (j : Int) ∉ l) : Part l k (j + 1) := by
  obtain ⟨h1, h2, h3⟩ := h
  refine ⟨h1, fun x hx => by have := h2 x hx; omega, fun x hx => ?_⟩
  have h4 := h3 x hx
  have h5 : x ≠ (j : Int) := fun e => hj (e ▸ List.mem_of_mem_drop hx)
  omega
theorem Part.all {l : List Int} {k j : Nat} (h : Part l k j) (hj : ∀ x, x ∈ l → x < (j : Int)) : k = l.length := by
  obtain ⟨h1, h2, h3⟩ := h
  rcases Nat.lt_or_ge k l.length with h4 | h4
  · have hm : l[k] ∈ l.drop k := by rw [List.drop_eq_getElem_cons h4]; exact List.mem_cons_self
    have := h3 _ hm
    have := hj _ (List.mem_of_mem_drop hm)
    omega
  · omega
/-- The ids of those who are due at n. -/
def dids (L : List Tm) (n : Nat) : List Int := (dueL L n).map (·.id)
theorem dids_ord {D : List Int} {L : List Tm} (h : DR D L) (n : Nat) : (dids L n).Pairwise (· < ·) := by
  unfold dids
  rw [List.pairwise_map]
  exact h.ord.filter _
theorem dids_iff {D : List Int} {L : List Tm} (h : DR D L) {n j : Nat} {v : Int} (hv : D[j]? = some v) : (j : Int) ∈ dids L n ↔ v = (n : Int) := by
  unfold dids
  rw [List.mem_map]
  constructor
  · rintro ⟨t, ht, hid⟩
    obtain ⟨h1, h2⟩ := dueL_mem2.1 ht
    obtain ⟨i, h3, h4⟩ := h.of_t t h1
    have : i = j := by omega
    subst this
    rw [hv] at h4
    rw [Option.some.inj h4, h2]
  · intro e
    rcases h.of_i j v hv with h1 | ⟨t, h1, h2, h3⟩
    · omega
    · exact ⟨t, dueL_mem2.2 ⟨h1, by omega⟩, h2⟩
theorem dids_lt {D : List Int} {L : List Tm} (h : DR D L) (n : Nat) : ∀ x, x ∈ dids L n → 0 ≤ x ∧ x < (D.length : Int) := by
  intro x hx
  obtain ⟨t, ht, rfl⟩ := List.mem_map.1 hx
  exact h.lt (dueL_mem2.1 ht).1
end Go.Proofs.Ytgmeebpgncenmaa
