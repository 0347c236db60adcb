/- Rows of ints that lie anywhere in a block of their own. -/
import Derived.Test.YtncjhfofmeamdaaOwn
import Derived.Laws.IdiomCopy
namespace Go.Proofs.Ytncjhfofmeamdaa
open Go.RowKit

def ints (l : List Nat) : List Value := l.map fun x : Nat => Value.int .i64 (x : Int)
theorem ints_at {l : List Nat} {j x : Nat} (h : l[j]? = some x) : (ints l)[j]? = some (.int .i64 (x : Int)) := by simp [ints, h]
theorem ints_len (l : List Nat) : (ints l).length = l.length := by simp [ints]
theorem ints_one (l : List Nat) : ∀ v ∈ ints l, v.oneCell' = true := by
  intro v hv
  obtain ⟨x, _, rfl⟩ := List.mem_map.1 hv
  rfl

/-- The slice '.slice A n c' owns the ints l, somewhere in its block. -/
def Row (w : World) (A : Option Addr) (c : Nat) (l : List Nat) : Prop :=
  (A = none ∧ l = [] ∧ c = 0) ∨ ∃ g off cur, A = some ⟨g, off, none⟩ ∧ Blk w g 3 cur ∧ l.length ≤ c ∧ c ≤ 9223372036854775807 ∧ off + c ≤ cur.size ∧ ∀ (j x : Nat), l[j]? = some x → cur[off + j]? = some (.int .i64 (x : Int))

section
variable {w w' : World} {A : Option Addr} {c : Nat} {l : List Nat} {S : Nat → Prop} {g off : Nat}
theorem Row.nil_ (w : World) : Row w none 0 [] := .inl ⟨rfl, rfl, rfl⟩
theorem Row.open_ (h : Row w (some ⟨g, off, none⟩) c l) : ∃ cur, Blk w g 3 cur ∧ l.length ≤ c ∧ c ≤ 9223372036854775807 ∧ off + c ≤ cur.size ∧ ∀ (j x : Nat), l[j]? = some x → cur[off + j]? = some (.int .i64 (x : Int)) := by
  rcases h with ⟨h, _⟩ | ⟨g', o', cur, hv, r⟩
  · cases h
  · injection hv with hv
    injection hv with h1 h2
    subst h1
    subst h2
    exact ⟨cur, r⟩
theorem Row.lt (h : Row w (some ⟨g, off, none⟩) c l) : g < w.heap.size := by
  obtain ⟨cur, hb, _⟩ := h.open_
  exact hb.lt
theorem Row.fr (h : Row w A c l) (k : Fr S w w') (hS : ∀ g off, A = some ⟨g, off, none⟩ → ¬ S g) : Row w' A c l := by
  rcases h with h | ⟨g, off, cur, rfl, hg, r⟩
  · exact .inl h
  · exact .inr ⟨g, off, cur, rfl, hg.fr k (hS g off rfl), r⟩
theorem Row.fr0 (h : Row w A c l) (k : Fr (fun _ => False) w w') : Row w' A c l := h.fr k fun _ _ _ => id
theorem Row.some_ (h : Row w A c l) (hn : 0 < l.length) : ∃ g off, A = some ⟨g, off, none⟩ := by
  rcases h with ⟨_, rfl, _⟩ | ⟨g', o', cur, rfl, _⟩
  · simp at hn
  · exact ⟨g', o', rfl⟩
theorem Row.len_le (h : Row w A c l) : l.length ≤ c ∧ c ≤ 9223372036854775807 := by
  rcases h with ⟨_, rfl, rfl⟩ | ⟨g', o', cur, _, _, h1, h2, _⟩
  · exact ⟨Nat.le_refl _, by omega⟩
  · exact ⟨h1, h2⟩
theorem Row.cell (h : Row w (some ⟨g, off, none⟩) c l) {j x : Nat} (hj : l[j]? = some x) : w.cell? ⟨g, off + j, none⟩ = some (.int .i64 (x : Int)) := by
  obtain ⟨cur, hb, _, _, _, hc⟩ := h.open_
  rw [hb.cell]; exact hc j x hj
/-- Some cell is there within the capacity. -/
theorem Row.room (h : Row w (some ⟨g, off, none⟩) c l) (j : Nat) (hj : j < c) : (w.cell? ⟨g, off + j, none⟩).isSome = true := by
  obtain ⟨cur, hb, _, _, hs, hc⟩ := h.open_
  rw [hb.cell, Array.getElem?_eq_getElem (by omega)]; rfl
theorem Row.frozen (h : Row w (some ⟨g, off, none⟩) c l) (j : Nat) : w.frozen? ⟨g, j, none⟩ = false := by
  obtain ⟨cur, hb, _⟩ := h.open_
  exact hb.frozen j
theorem Row.block_ne {b : Nat} {t : TypeId} {cs : Array Value} (h : Row w (some ⟨g, off, none⟩) c l) (hb : Blk w b t cs) (hne : 3 ≠ t) : g ≠ b := by
  obtain ⟨cur, hb2, _⟩ := h.open_
  exact hb2.ne_ hb hne
/-- 's[1:]', when there is another. -/
theorem Row.tail {x : Nat} (h : Row w (some ⟨g, off, none⟩) c (x :: l)) : Row w (some ⟨g, off + 1, none⟩) (c - 1) l := by
  obtain ⟨cur, hb, hl, hm, hs, hc⟩ := h.open_
  simp only [List.length_cons] at hl
  refine .inr ⟨g, off + 1, cur, rfl, hb, by omega, by omega, by omega, fun j y hj => ?_⟩
  have := hc (j + 1) y (by simpa using hj)
  rw [← this]; congr 1; omega
/-- 's[1:]', when there is no other: the capacity's end keeps the old address. -/
theorem Row.tail1 {x : Nat} (h : Row w (some ⟨g, off, none⟩) c [x]) (off' c' : Nat) (hc : off' + c' ≤ off + c) (hc2 : c' ≤ c) : Row w (some ⟨g, off', none⟩) c' [] := by
  obtain ⟨cur, hb, hl, hm, hs, _⟩ := h.open_
  exact .inr ⟨g, off', cur, rfl, hb, Nat.zero_le _, by omega, by omega, nofun⟩
end

/-- A run of stores into one block. -/
theorem Blk.setCells (vs : List Value) : ∀ {w : World} {g : Nat} {t : TypeId} {cs : Array Value} (o : Nat), Blk w g t cs → ∃ cs', Blk (w.setCells g o vs) g t cs' ∧ cs'.size = cs.size ∧ ∀ k, cs'[k]? = if o ≤ k ∧ k < o + vs.length ∧ k < cs.size then vs[k - o]? else cs[k]? := by
  induction vs with
  | nil =>
    intro w g t cs o h
    refine ⟨cs, h, rfl, fun k => ?_⟩
    rw [if_neg (by simp; omega)]
  | cons v r ih =>
    intro w g t cs o h
    obtain ⟨cs', h1, h2, h3⟩ := ih (o + 1) (h.set_ o v)
    refine ⟨cs', h1, by simpa using h2, fun k => ?_⟩
    rw [h3]
    simp only [Array.size_setIfInBounds, List.length_cons]
    by_cases e : k = o
    · subst e
      rw [if_neg (by omega), Array.getElem?_setIfInBounds, if_pos rfl]
      by_cases hk : k < cs.size
      · rw [if_pos hk, if_pos ⟨Nat.le_refl _, by omega, hk⟩, Nat.sub_self]; rfl
      · rw [if_neg hk, if_neg (by omega), Array.getElem?_eq_none (by omega)]
    · by_cases hk : o + 1 ≤ k ∧ k < o + 1 + r.length ∧ k < cs.size
      · rw [if_pos hk, if_pos (by omega), show k - o = (k - (o + 1)) + 1 by omega]; simp
      · rw [if_neg hk, if_neg (by omega), Array.getElem?_setIfInBounds, if_neg (by omega)]
theorem Fr.setCells {S : Nat → Prop} {g : Nat} (vs : List Value) : ∀ {a w : World} (o : Nat), Fr S a w → (S g ∨ a.heap.size ≤ g) → Fr S a (w.setCells g o vs) := by
  induction vs with
  | nil => intro a w o h _; exact h
  | cons v r ih => intro a w o h hs; exact ih (o + 1) (h.setCell hs v) hs
end Go.Proofs.Ytncjhfofmeamdaa
