/- The arena in memory. -/
import Derived.Test.YtncjhfofmeamdaaRi
import Derived.Test.YtncjhfofmeamdaaMp
import Derived.Test.YtncjhfofmeamdaaProg
namespace Go.Proofs.Ytncjhfofmeamdaa
open Go.RowKit

def kfN (a : Nat) : Value := .int .i64 (a : Int)
def kfI (a : Int) : Value := .int .i64 a
/-- What is taken, as the map has it. -/
def mkT (T : List (Nat × Nat)) : List (Int × Nat) := T.map fun p => ((p.1 : Int), p.2)
def upd {α : Type} (f : Nat → α) (k : Nat) (a : α) : Nat → α := fun i => if i = k then a else f i
theorem upd_same {α : Type} (f : Nat → α) (k : Nat) (a : α) : upd f k a k = a := by simp [upd]
theorem upd_other {α : Type} (f : Nat → α) {k i : Nat} (a : α) (h : i ≠ k) : upd f k a i = f i := by simp [upd, h]

/-- Block b is an arena of the order n; m: its map; fb: its rows; A, c, f: where each row lies, its capacity, what it holds; T: what is taken, as the map has it. -/
structure Ar (w : World) (b m fb n : Nat) (A : Nat → Option Addr) (c : Nat → Nat) (f : Nat → List Nat) (T : List (Nat × Nat)) : Prop where
  blk : Blk w b 51 #[.int .i64 (n : Int), .map (some m), .slice (some ⟨fb, 0, none⟩) (n + 1) (n + 1)]
  rows : ∃ cs, Blk w fb 34 cs ∧ cs.size = n + 1 ∧ ∀ j, j ≤ n → cs[j]? = some (.slice (A j) (f j).length (c j))
  map : MapIs Try.prog 3 kfI kfN w m (mkT T)
  row : ∀ j, j ≤ n → Row w (A j) (c j) (f j)
  dis : ∀ i j g o o', i ≤ n → j ≤ n → A i = some ⟨g, o, none⟩ → A j = some ⟨g, o', none⟩ → i = j
/-- The arena's blocks. -/
def Af (b m fb n : Nat) (A : Nat → Option Addr) (i : Nat) : Prop := i = b ∨ i = m ∨ i = fb ∨ ∃ j o, j ≤ n ∧ A j = some ⟨i, o, none⟩

section
variable {w w' : World} {b m fb n : Nat} {A : Nat → Option Addr} {c : Nat → Nat} {f : Nat → List Nat} {T : List (Nat × Nat)} {S : Nat → Prop}
theorem Ar.cord (h : Ar w b m fb n A c f T) : w.cell? ⟨b, 0, none⟩ = some (.int .i64 (n : Int)) := by rw [h.blk.cell]; rfl
theorem Ar.cmap (h : Ar w b m fb n A c f T) : w.cell? ⟨b, 1, none⟩ = some (.map (some m)) := by rw [h.blk.cell]; rfl
theorem Ar.cfree (h : Ar w b m fb n A c f T) : w.cell? ⟨b, 2, none⟩ = some (.slice (some ⟨fb, 0, none⟩) (n + 1) (n + 1)) := by rw [h.blk.cell]; rfl
theorem Ar.crow (h : Ar w b m fb n A c f T) {j : Nat} (hj : j ≤ n) : w.cell? ⟨fb, j, none⟩ = some (.slice (A j) (f j).length (c j)) := by
  obtain ⟨cs, h1, _, h3⟩ := h.rows
  rw [h1.cell]; exact h3 j hj
theorem Ar.frow (h : Ar w b m fb n A c f T) (j : Nat) : w.frozen? ⟨fb, j, none⟩ = false := by
  obtain ⟨cs, h1, _⟩ := h.rows
  exact h1.frozen j
theorem Ar.lt (h : Ar w b m fb n A c f T) : b < w.heap.size := h.blk.lt
theorem Ar.ltf (h : Ar w b m fb n A c f T) : fb < w.heap.size := by
  obtain ⟨cs, h1, _⟩ := h.rows
  exact h1.lt
theorem Ar.bf (h : Ar w b m fb n A c f T) : b ≠ fb := by
  obtain ⟨cs, h1, _⟩ := h.rows
  exact h.blk.ne_ h1 (by decide)
theorem Ar.mb (h : Ar w b m fb n A c f T) : m ≠ b := h.map.ne_blk h.blk
theorem Ar.mf (h : Ar w b m fb n A c f T) : m ≠ fb := by
  obtain ⟨cs, h1, _⟩ := h.rows
  exact h.map.ne_blk h1
theorem Ar.ab (h : Ar w b m fb n A c f T) {j g o : Nat} (hj : j ≤ n) (hA : A j = some ⟨g, o, none⟩) : g ≠ b := by
  have := h.row j hj
  rw [hA] at this
  exact this.block_ne h.blk (by decide)
theorem Ar.af (h : Ar w b m fb n A c f T) {j g o : Nat} (hj : j ≤ n) (hA : A j = some ⟨g, o, none⟩) : g ≠ fb := by
  obtain ⟨cs, h1, _⟩ := h.rows
  have := h.row j hj
  rw [hA] at this
  exact this.block_ne h1 (by decide)
theorem Ar.am (h : Ar w b m fb n A c f T) {j g o : Nat} (hj : j ≤ n) (hA : A j = some ⟨g, o, none⟩) : g ≠ m := by
  have h1 := h.row j hj
  rw [hA] at h1
  obtain ⟨es, clock, hm, _⟩ := h.map
  rcases h1 with ⟨h2, _⟩ | ⟨g', o', cur, h2, hg, _⟩
  · cases h2
  · injection h2 with h2
    injection h2 with h2
    subst h2
    rintro rfl
    unfold Blk at hg
    rw [hm] at hg
    cases hg
theorem Ar.in_ (h : Ar w b m fb n A c f T) {i : Nat} (hi : Af b m fb n A i) : i < w.heap.size := by
  rcases hi with rfl | rfl | rfl | ⟨j, o, hj, hA⟩
  · exact h.lt
  · exact h.map.lt
  · exact h.ltf
  · have := h.row j hj
    rw [hA] at this
    exact this.lt
theorem Ar.fr (h : Ar w b m fb n A c f T) (k : Fr S w w') (hS : ∀ i, Af b m fb n A i → ¬ S i) : Ar w' b m fb n A c f T := by
  obtain ⟨cs, h1, h2⟩ := h.rows
  exact ⟨h.blk.fr k (hS b (.inl rfl)), ⟨cs, h1.fr k (hS fb (.inr (.inr (.inl rfl)))), h2⟩, h.map.fr k (hS m (.inr (.inl rfl))), fun j hj => (h.row j hj).fr k fun g o hg => hS g (.inr (.inr (.inr ⟨j, o, hj, hg⟩))), h.dis⟩
theorem Ar.fr0 (h : Ar w b m fb n A c f T) (k : Fr (fun _ => False) w w') : Ar w' b m fb n A c f T := h.fr k fun _ _ => id
/-- A row is another one now. -/
theorem Ar.put (h : Ar w b m fb n A c f T) {w1 : World} {k : Nat} (hk : k ≤ n) {A' : Option Addr} {c' : Nat} {Y : List Nat} (hf : Fr (fun i => ∃ o, A k = some ⟨i, o, none⟩) w w1)
    (ho : Row w1 A' c' Y) (hA : ∀ g o, A' = some ⟨g, o, none⟩ → (∃ o', A k = some ⟨g, o', none⟩) ∨ w.heap.size ≤ g) :
    Ar (w1.setCell ⟨fb, k, none⟩ (.slice A' Y.length c')) b m fb n (upd A k A') (upd c k c') (upd f k Y) T := by
  obtain ⟨cs, h1, h2, h3⟩ := h.rows
  have hfs : Fr (fun i => i = fb) w1 (w1.setCell ⟨fb, k, none⟩ (.slice A' Y.length c')) := (Fr.refl (fun i => i = fb) w1).setCell (.inl rfl) _
  have h4 : Blk w1 fb 34 cs := h1.fr hf fun ⟨o, e⟩ => h.af hk e rfl
  have hbf := h.bf
  have hmf := h.mf
  refine ⟨(h.blk.fr hf fun ⟨o, e⟩ => h.ab hk e rfl).fr hfs hbf, ⟨_, h4.set_ _ _, by simp [h2], ?_⟩, (h.map.fr hf fun ⟨o, e⟩ => h.am hk e rfl).fr hfs hmf, ?_, ?_⟩
  · intro j hj
    rw [Array.getElem?_setIfInBounds]
    by_cases e : j = k
    · subst e
      rw [if_pos rfl, if_pos (by omega), upd_same, upd_same, upd_same]
    · rw [if_neg (by omega), upd_other _ _ e, upd_other _ _ e, upd_other _ _ e]
      exact h3 j hj
  · intro j hj
    by_cases e : j = k
    · subst e
      rw [upd_same, upd_same, upd_same]
      refine ho.fr hfs fun g o hg => ?_
      rcases hA g o hg with ⟨o', h5⟩ | h5
      · exact h.af hj h5
      · have := h.ltf; omega
    · rw [upd_other _ _ e, upd_other _ _ e, upd_other _ _ e]
      exact ((h.row j hj).fr hf fun g o hg ⟨o', hg'⟩ => e (h.dis j k g o o' hj hk hg hg')).fr hfs fun g o hg => h.af hj hg
  · intro i j g o o' hi hj e1 e2
    by_cases ei : i = k
    · by_cases ej : j = k
      · omega
      · subst ei
        rw [upd_same] at e1
        rw [upd_other _ _ ej] at e2
        rcases hA g o e1 with ⟨o2, h5⟩ | h5
        · exact h.dis i j g o2 o' hi hj h5 e2
        · have h6 := h.row j hj
          rw [e2] at h6
          have := h6.lt; omega
    · rw [upd_other _ _ ei] at e1
      by_cases ej : j = k
      · subst ej
        rw [upd_same] at e2
        rcases hA g o' e2 with ⟨o2, h5⟩ | h5
        · exact h.dis i j g o o2 hi hj e1 h5
        · have h6 := h.row i hi
          rw [e1] at h6
          have := h6.lt; omega
      · rw [upd_other _ _ ej] at e2
        exact h.dis i j g o o' hi hj e1 e2
/-- The map is another one now. -/
theorem Ar.remap (h : Ar w b m fb n A c f T) {w1 : World} {T' : List (Nat × Nat)} (hf : Fr (fun i => i = m) w w1) (hm : MapIs Try.prog 3 kfI kfN w1 m (mkT T')) : Ar w1 b m fb n A c f T' := by
  obtain ⟨cs, h1, h2⟩ := h.rows
  exact ⟨h.blk.fr hf h.mb.symm, ⟨cs, h1.fr hf h.mf.symm, h2⟩, hm, fun j hj => (h.row j hj).fr hf fun g o hg => h.am hj hg, h.dis⟩
theorem af_upd {k g' o' : Nat} {A0 : Nat → Option Addr} (hk : k ≤ n) (h : ∀ i, Af b m fb n A i → Af b m fb n A0 i ∨ S i) (hg : (∃ o, A k = some ⟨g', o, none⟩) ∨ S g') :
    ∀ i, Af b m fb n (upd A k (some ⟨g', o', none⟩)) i → Af b m fb n A0 i ∨ S i := by
  rintro i (rfl | rfl | rfl | ⟨j, o, hj, e⟩)
  · exact h _ (.inl rfl)
  · exact h _ (.inr (.inl rfl))
  · exact h _ (.inr (.inr (.inl rfl)))
  · by_cases ej : j = k
    · subst ej
      rw [upd_same] at e
      rw [Option.some.injEq, Addr.mk.injEq] at e
      rw [← e.1]
      rcases hg with ⟨o2, h1⟩ | h1
      · exact h _ (.inr (.inr (.inr ⟨j, o2, hj, h1⟩)))
      · exact .inr h1
    · rw [upd_other _ _ ej] at e
      exact h _ (.inr (.inr (.inr ⟨j, o, hj, e⟩)))
end
end Go.Proofs.Ytncjhfofmeamdaa
