/- The wheel in memory, and where its timers stand. -/
import Derived.Test.YtgmeebpgncenmaaSlot
import Derived.Test.YtgmeebpgncenmaaOwn
import Derived.Test.YtgmeebpgncenmaaMp
namespace Go.Proofs.Ytgmeebpgncenmaa
open Go.RowKit

/-- One that waits. -/
structure Tm where
  id : Int
  due : Nat
  num : Nat
deriving DecidableEq

def Tm.v (t : Tm) : Value := .agg #[.int .i64 t.id, .int .i64 (t.due : Int), .int .i64 (t.num : Int)]
def Tm.cs (t : Tm) : List Value := [.int .i64 t.id, .int .i64 (t.due : Int), .int .i64 (t.num : Int)]
def tcs (l : List Tm) : List Value := l.flatMap Tm.cs
def kfI (a : Int) : Value := .int .i64 a
def upd {α : Type} (f : Nat → α) (k : Nat) (a : α) : Nat → α := fun i => if i = k then a else f i

theorem upd_same {α : Type} (f : Nat → α) (k : Nat) (a : α) : upd f k a k = a := by simp [upd]
theorem upd_other {α : Type} (f : Nat → α) {k i : Nat} (a : α) (h : i ≠ k) : upd f k a i = f i := by simp [upd, h]
theorem tcs_length (l : List Tm) : (tcs l).length = l.length * 3 := by
  induction l with
  | nil => rfl
  | cons x r ih => simp [tcs, Tm.cs] at ih ⊢; omega
theorem tcs_append (l r : List Tm) : tcs (l ++ r) = tcs l ++ tcs r := by simp [tcs]
theorem tcs_one (t : Tm) : tcs [t] = t.cs := by simp [tcs]
theorem tcs_cell : ∀ (l : List Tm) (i : Nat) (t : Tm), l[i]? = some t → (tcs l)[i * 3]? = some (.int .i64 t.id) ∧ (tcs l)[i * 3 + 1]? = some (.int .i64 (t.due : Int)) ∧ (tcs l)[i * 3 + 2]? = some (.int .i64 (t.num : Int))
  | [], i, t, h => by simp at h
  | x :: r, 0, t, h => by
    simp at h
    subst h
    simp [tcs, Tm.cs]
  | x :: r, i + 1, t, h => by
    simp only [List.getElem?_cons_succ] at h
    have ih := tcs_cell r i t h
    have e : tcs (x :: r) = x.cs ++ tcs r := rfl
    have hl : x.cs.length = 3 := rfl
    have e0 : (i + 1) * 3 - 3 = i * 3 := by omega
    have e1 : (i + 1) * 3 + 1 - 3 = i * 3 + 1 := by omega
    have e2 : (i + 1) * 3 + 2 - 3 = i * 3 + 2 := by omega
    refine ⟨?_, ?_, ?_⟩
    · rw [e, List.getElem?_append_right (by omega), hl, e0]; exact ih.1
    · rw [e, List.getElem?_append_right (by omega), hl, e1]; exact ih.2.1
    · rw [e, List.getElem?_append_right (by omega), hl, e2]; exact ih.2.2

/-- The cells of the wheel's block. -/
structure WCells (cs : Array Value) (now added : Nat) (A : Nat → Option Addr) (c : Nat → Nat) (X : Nat → List Tm) (m : Nat) : Prop where
  size : cs.size = 51
  now_ : cs[0]? = some (.int .i64 (now : Int))
  added_ : cs[1]? = some (.int .i64 (added : Int))
  rim : ∀ i, i < 48 → cs[2 + i]? = some (.slice (A i) (X i).length (c i))
  map : cs[50]? = some (.map (some m))

/-- Block b is the wheel, block m its map; A, c, X: where each slot's list lies, its capacity, what it holds; L: all that wait, in the order in which they came. -/
structure Wh (w : World) (b m now added : Nat) (A : Nat → Option Addr) (c : Nat → Nat) (X : Nat → List Tm) (L : List Tm) : Prop where
  blk : ∃ cs, Blk w b 51 cs ∧ WCells cs now added A c X m
  map : MapIs Try.prog 3 kfI Tm.v w m (L.map fun t => (t.id, t))
  own : ∀ i, i < 48 → Own w 55 3 (A i) (X i).length (c i) (tcs (X i))
  dis : ∀ i j g, i < 48 → j < 48 → A i = some ⟨g, 0, none⟩ → A j = some ⟨g, 0, none⟩ → i = j

/-- The wheel's blocks. -/
def Wf (b m : Nat) (A : Nat → Option Addr) (i : Nat) : Prop := i = b ∨ i = m ∨ ∃ j, j < 48 ∧ A j = some ⟨i, 0, none⟩

section
variable {w w' : World} {b m now added : Nat} {A : Nat → Option Addr} {c : Nat → Nat} {X : Nat → List Tm} {L : List Tm} {S : Nat → Prop}
theorem Wh.lt (h : Wh w b m now added A c X L) : b < w.heap.size := by
  obtain ⟨cs, hb, _⟩ := h.blk
  exact hb.lt
theorem Wh.frozen (h : Wh w b m now added A c X L) (i : Nat) : w.frozen? ⟨b, i, none⟩ = false := by
  obtain ⟨cs, hb, _⟩ := h.blk
  exact hb.frozen i
theorem Wh.cnow (h : Wh w b m now added A c X L) : w.cell? ⟨b, 0, none⟩ = some (.int .i64 (now : Int)) := by
  obtain ⟨cs, hb, hc⟩ := h.blk
  rw [hb.cell]; exact hc.now_
theorem Wh.cadded (h : Wh w b m now added A c X L) : w.cell? ⟨b, 1, none⟩ = some (.int .i64 (added : Int)) := by
  obtain ⟨cs, hb, hc⟩ := h.blk
  rw [hb.cell]; exact hc.added_
theorem Wh.cmap (h : Wh w b m now added A c X L) : w.cell? ⟨b, 50, none⟩ = some (.map (some m)) := by
  obtain ⟨cs, hb, hc⟩ := h.blk
  rw [hb.cell]; exact hc.map
theorem Wh.crim (h : Wh w b m now added A c X L) (k : Nat) (hk : k < 48) : w.cell? ⟨b, 2 + k, none⟩ = some (.slice (A k) (X k).length (c k)) := by
  obtain ⟨cs, hb, hc⟩ := h.blk
  rw [hb.cell]; exact hc.rim k hk
theorem Wh.bm (h : Wh w b m now added A c X L) : m ≠ b := by
  obtain ⟨cs, hb, hc⟩ := h.blk
  exact h.map.ne_blk hb
theorem Wh.ba (h : Wh w b m now added A c X L) {i g : Nat} (hi : i < 48) (hA : A i = some ⟨g, 0, none⟩) : g ≠ b := by
  obtain ⟨cs, hb, hc⟩ := h.blk
  have := h.own i hi
  rw [hA] at this
  exact this.block_ne hb (by decide)
theorem Wh.ma (h : Wh w b m now added A c X L) {i g : Nat} (hi : i < 48) (hA : A i = some ⟨g, 0, none⟩) : g ≠ m := by
  have h1 := h.own i hi
  rw [hA] at h1
  obtain ⟨es, clock, hm, _⟩ := h.map
  rcases h1.2 with ⟨h2, _⟩ | ⟨g', cur, h2, hg, _⟩
  · cases h2
  · injection h2 with h2
    injection h2 with h2
    subst h2
    rintro rfl
    rw [hm] at hg
    cases hg
theorem Wh.fr (h : Wh w b m now added A c X L) (k : Fr S w w') (hS : ∀ i, Wf b m A i → ¬ S i) : Wh w' b m now added A c X L := by
  obtain ⟨cs, hb, hc⟩ := h.blk
  refine ⟨⟨cs, hb.fr k (hS b (.inl rfl)), hc⟩, h.map.fr k (hS m (.inr (.inl rfl))), fun i hi => (h.own i hi).fr k fun g hg => hS g (.inr (.inr ⟨i, hi, hg⟩)), h.dis⟩
theorem Wh.fr0 (h : Wh w b m now added A c X L) (k : Fr (fun _ => False) w w') : Wh w' b m now added A c X L := h.fr k fun _ _ => id
theorem Wh.in_ (h : Wh w b m now added A c X L) {i : Nat} (hi : Wf b m A i) : i < w.heap.size := by
  rcases hi with rfl | rfl | ⟨j, hj, hA⟩
  · exact h.lt
  · exact h.map.lt
  · exact (h.own j hj).lt hA
/-- A slot's list is another one now. -/
theorem Wh.put (h : Wh w b m now added A c X L) {w1 : World} {k : Nat} (hk : k < 48) {A' : Option Addr} {c' : Nat} {Y : List Tm} (hf : Fr (fun i => A k = some ⟨i, 0, none⟩) w w1)
    (ho : Own w1 55 3 A' Y.length c' (tcs Y)) (hA : ∀ g, A' = some ⟨g, 0, none⟩ → A k = some ⟨g, 0, none⟩ ∨ w.heap.size ≤ g) :
    Wh (w1.setCell ⟨b, 2 + k, none⟩ (.slice A' Y.length c')) b m now added (upd A k A') (upd c k c') (upd X k Y) L := by
  obtain ⟨cs, hb, hc⟩ := h.blk
  have hb1 : Blk w1 b 51 cs := hb.fr hf fun e => h.ba hk e rfl
  have hfs : Fr (fun i => i = b) w1 (w1.setCell ⟨b, 2 + k, none⟩ (.slice A' Y.length c')) := (Fr.refl (fun i => i = b) w1).setCell (.inl rfl) _
  have hbm := h.bm
  refine ⟨⟨_, hb1.set_ _ _, ⟨by simp [hc.size], ?_, ?_, ?_, ?_⟩⟩, (h.map.fr hf fun e => h.ma hk e rfl).fr hfs hbm, ?_, ?_⟩
  · rw [Array.getElem?_setIfInBounds, if_neg (by omega)]; exact hc.now_
  · rw [Array.getElem?_setIfInBounds, if_neg (by omega)]; exact hc.added_
  · intro i hi
    rw [Array.getElem?_setIfInBounds]
    by_cases e : i = k
    · subst e
      rw [if_pos rfl, if_pos (by rw [hc.size]; omega), upd_same, upd_same, upd_same]
    · rw [if_neg (by omega), upd_other _ _ e, upd_other _ _ e, upd_other _ _ e]
      exact hc.rim i hi
  · rw [Array.getElem?_setIfInBounds, if_neg (by omega)]; exact hc.map
  · intro i hi
    by_cases e : i = k
    · subst e
      rw [upd_same, upd_same, upd_same]
      refine ho.fr hfs fun g hg => ?_
      rcases hA g hg with h1 | h1
      · exact h.ba hi h1
      · have := h.lt; omega
    · rw [upd_other _ _ e, upd_other _ _ e, upd_other _ _ e]
      refine ((h.own i hi).fr hf fun g hg hg' => e (h.dis i k g hi hk hg hg')).fr hfs fun g hg => h.ba hi hg
  · intro i j g hi hj h1 h2
    by_cases e : i = k
    · by_cases e' : j = k
      · omega
      · subst e
        rw [upd_same] at h1
        rw [upd_other _ _ e'] at h2
        rcases hA g h1 with h3 | h3
        · exact h.dis i j g hi hj h3 h2
        · have := (h.own j hj).lt h2; omega
    · rw [upd_other _ _ e] at h1
      by_cases e' : j = k
      · subst e'
        rw [upd_same] at h2
        rcases hA g h2 with h3 | h3
        · exact h.dis i j g hi hj h1 h3
        · have := (h.own i hi).lt h1; omega
      · rw [upd_other _ _ e'] at h2
        exact h.dis i j g hi hj h1 h2
/-- The map is another one now. -/
theorem Wh.remap (h : Wh w b m now added A c X L) {w1 : World} {L' : List Tm} (hf : Fr (fun i => i = m) w w1) (hm : MapIs Try.prog 3 kfI Tm.v w1 m (L'.map fun t => (t.id, t))) : Wh w1 b m now added A c X L' := by
  obtain ⟨cs, hb, hc⟩ := h.blk
  exact ⟨⟨cs, hb.fr hf h.bm.symm, hc⟩, hm, fun i hi => (h.own i hi).fr hf fun g hg => h.ma hi hg, h.dis⟩
theorem Wh.setNow (h : Wh w b m now added A c X L) (n : Nat) : Wh (w.setCell ⟨b, 0, none⟩ (.int .i64 (n : Int))) b m n added A c X L := by
  obtain ⟨cs, hb, hc⟩ := h.blk
  have hfs : Fr (fun i => i = b) w (w.setCell ⟨b, 0, none⟩ (.int .i64 (n : Int))) := (Fr.refl (fun i => i = b) w).setCell (.inl rfl) _
  refine ⟨⟨_, hb.set_ _ _, ⟨by simp [hc.size], ?_, ?_, ?_, ?_⟩⟩, h.map.fr hfs h.bm, fun i hi => (h.own i hi).fr hfs fun g hg => h.ba hi hg, h.dis⟩
  · rw [Array.getElem?_setIfInBounds, if_pos rfl, if_pos (by rw [hc.size]; omega)]
  · rw [Array.getElem?_setIfInBounds, if_neg (by omega)]; exact hc.added_
  · intro i hi
    rw [Array.getElem?_setIfInBounds, if_neg (by omega)]; exact hc.rim i hi
  · rw [Array.getElem?_setIfInBounds, if_neg (by omega)]; exact hc.map
theorem Wh.setAdded (h : Wh w b m now added A c X L) (n : Nat) : Wh (w.setCell ⟨b, 1, none⟩ (.int .i64 (n : Int))) b m now n A c X L := by
  obtain ⟨cs, hb, hc⟩ := h.blk
  have hfs : Fr (fun i => i = b) w (w.setCell ⟨b, 1, none⟩ (.int .i64 (n : Int))) := (Fr.refl (fun i => i = b) w).setCell (.inl rfl) _
  refine ⟨⟨_, hb.set_ _ _, ⟨by simp [hc.size], ?_, ?_, ?_, ?_⟩⟩, h.map.fr hfs h.bm, fun i hi => (h.own i hi).fr hfs fun g hg => h.ba hi hg, h.dis⟩
  · rw [Array.getElem?_setIfInBounds, if_neg (by omega)]; exact hc.now_
  · rw [Array.getElem?_setIfInBounds, if_pos rfl, if_pos (by rw [hc.size]; omega)]
  · intro i hi
    rw [Array.getElem?_setIfInBounds, if_neg (by omega)]; exact hc.rim i hi
  · rw [Array.getElem?_setIfInBounds, if_neg (by omega)]; exact hc.map
end

/-! ### where timers stand -/

/-- One stands rightly in slot i; of each rim when it was seen to last. -/
def Pl (n0 n1 n2 i : Nat) (t : Tm) : Prop :=
  (i < 16 ∧ t.due % 16 = i ∧ n0 < t.due ∧ t.due ≤ n0 + 16) ∨
  (16 ≤ i ∧ i < 32 ∧ 16 + t.due / 16 % 16 = i ∧ n1 / 16 < t.due / 16 ∧ t.due / 16 ≤ n1 / 16 + 16) ∨
  (32 ≤ i ∧ i < 48 ∧ 32 + t.due / 256 % 16 = i ∧ n2 / 256 < t.due / 256 ∧ t.due / 256 ≤ n2 / 256 + 16)

/-- X holds L but for rest, each in one place, rightly. -/
structure St (X : Nat → List Tm) (L rest : List Tm) (n0 n1 n2 : Nat) : Prop where
  sub : ∀ i, i < 48 → ∀ t, t ∈ X i → t ∈ L ∧ Pl n0 n1 n2 i t
  cov : ∀ t, t ∈ L → t ∈ rest ∨ ∃ i, i < 48 ∧ t ∈ X i
  nd : ∀ i, i < 48 → (X i).Nodup
  un : ∀ i j t, i < 48 → j < 48 → t ∈ X i → t ∈ X j → i = j
  rnd : rest.Nodup
  rin : ∀ t, t ∈ rest → t ∈ L ∧ ∀ i, i < 48 → t ∉ X i

section
variable {X : Nat → List Tm} {L rest : List Tm} {n0 n1 n2 : Nat}
theorem slotI_lt (now due : Nat) : slotI now due < 48 := by unfold slotI; split <;> (try split) <;> omega
theorem St.take (h : St X L [] n0 n1 n2) {k : Nat} (hk : k < 48) {m1 m2 : Nat} (hp : ∀ i, i < 48 → i ≠ k → ∀ t, t ∈ X i → Pl n0 n1 n2 i t → Pl n0 m1 m2 i t) : St (upd X k []) L (X k) n0 m1 m2 := by
  refine ⟨?_, ?_, ?_, ?_, h.nd k hk, ?_⟩
  · intro i hi t ht
    by_cases e : i = k
    · subst e; rw [upd_same] at ht; cases ht
    · rw [upd_other _ _ e] at ht
      exact ⟨(h.sub i hi t ht).1, hp i hi e t ht (h.sub i hi t ht).2⟩
  · intro t ht
    rcases h.cov t ht with h1 | ⟨i, hi, h1⟩
    · cases h1
    · by_cases e : i = k
      · subst e; exact .inl h1
      · exact .inr ⟨i, hi, by rw [upd_other _ _ e]; exact h1⟩
  · intro i hi
    by_cases e : i = k
    · subst e; rw [upd_same]; exact List.nodup_nil
    · rw [upd_other _ _ e]; exact h.nd i hi
  · intro i j t hi hj h1 h2
    by_cases e : i = k
    · subst e; rw [upd_same] at h1; cases h1
    · by_cases e' : j = k
      · subst e'; rw [upd_same] at h2; cases h2
      · rw [upd_other _ _ e] at h1
        rw [upd_other _ _ e'] at h2
        exact h.un i j t hi hj h1 h2
  · intro t ht
    refine ⟨(h.sub k hk t ht).1, fun i hi h1 => ?_⟩
    by_cases e : i = k
    · subst e; rw [upd_same] at h1; cases h1
    · rw [upd_other _ _ e] at h1
      exact e (h.un i k t hi hk h1 ht)
theorem St.put {t : Tm} (h : St X L (t :: rest) n0 n1 n2) {k : Nat} (hk : k < 48) (hp : Pl n0 n1 n2 k t) : St (upd X k (X k ++ [t])) L rest n0 n1 n2 := by
  have hr := List.nodup_cons.1 h.rnd
  have ht := h.rin t (by simp)
  have mem : ∀ i s, s ∈ upd X k (X k ++ [t]) i → s ∈ X i ∨ (i = k ∧ s = t) := by
    intro i s hs
    by_cases e : i = k
    · subst e
      rw [upd_same] at hs
      rcases List.mem_append.1 hs with h1 | h1
      · exact .inl h1
      · exact .inr ⟨rfl, by simpa using h1⟩
    · rw [upd_other _ _ e] at hs
      exact .inl hs
  refine ⟨?_, ?_, ?_, ?_, hr.2, ?_⟩
  · intro i hi s hs
    rcases mem i s hs with h1 | ⟨rfl, rfl⟩
    · exact h.sub i hi s h1
    · exact ⟨ht.1, hp⟩
  · intro s hs
    rcases h.cov s hs with h1 | ⟨i, hi, h1⟩
    · rcases List.mem_cons.1 h1 with rfl | h1
      · exact .inr ⟨k, hk, by rw [upd_same]; simp⟩
      · exact .inl h1
    · refine .inr ⟨i, hi, ?_⟩
      by_cases e : i = k
      · subst e; rw [upd_same]; exact List.mem_append_left _ h1
      · rw [upd_other _ _ e]; exact h1
  · intro i hi
    by_cases e : i = k
    · subst e
      rw [upd_same, List.nodup_append]
      refine ⟨h.nd i hi, by simp, ?_⟩
      intro a ha a' ha' e1
      rw [List.mem_singleton] at ha'
      subst ha'
      subst e1
      exact ht.2 i hi ha
    · rw [upd_other _ _ e]; exact h.nd i hi
  · intro i j s hi hj h1 h2
    rcases mem i s h1 with h3 | ⟨e3, rfl⟩
    · rcases mem j s h2 with h4 | ⟨rfl, rfl⟩
      · exact h.un i j s hi hj h3 h4
      · exact absurd h3 (ht.2 i hi)
    · rcases mem j s h2 with h4 | ⟨e4, _⟩
      · exact absurd h4 (ht.2 j hj)
      · omega
  · intro s hs
    have h1 := h.rin s (by simp [hs])
    refine ⟨h1.1, fun i hi h2 => ?_⟩
    rcases mem i s h2 with h3 | ⟨_, rfl⟩
    · exact h1.2 i hi h3
    · exact hr.1 hs
end
end Go.Proofs.Ytgmeebpgncenmaa
