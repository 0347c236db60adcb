/- A wheel whole: the contracts of its functions, said of what waits. -/
import Derived.Test.YtgmeebpgncenmaaTik
import Derived.Test.YtgmeebpgncenmaaNx
import Derived.Test.YtgmeebpgncenmaaCan
namespace Go.Proofs.Ytgmeebpgncenmaa
open Go.RowKit

/-- Block b is a wheel; its blocks are among F; L waits, in the order in which it came. -/
def Whl (w : World) (b : Nat) (F : Nat → Prop) (now added : Nat) (L : List Tm) : Prop :=
  ∃ m A c X, (∀ i, Wf b m A i → F i) ∧ Wh w b m now added A c X L ∧ St X L [] now now now ∧ L.Pairwise (fun x y => x.num < y.num) ∧ (∀ t, t ∈ L → t.num ≤ added) ∧ L.length ≤ 1000 ∧ ∀ t, t ∈ L → -9223372036854775808 ≤ t.id ∧ t.id ≤ 9223372036854775807

/-- F, and what is new. -/
def Fn (F : Nat → Prop) (w : World) (i : Nat) : Prop := F i ∨ w.heap.size ≤ i

section
variable {w w' : World} {b now added : Nat} {F G : Nat → Prop} {L : List Tm} {S : Nat → Prop}
theorem Whl.mono (h : Whl w b F now added L) (hFG : ∀ i, i < w.heap.size → F i → G i) : Whl w b G now added L := by
  obtain ⟨m, A, c, X, h1, h2, r⟩ := h
  exact ⟨m, A, c, X, fun i hi => hFG i (h2.in_ hi) (h1 i hi), h2, r⟩
theorem Whl.fr (h : Whl w b F now added L) (f : Fr S w w') (hS : ∀ i, F i → ¬ S i) : Whl w' b F now added L := by
  obtain ⟨m, A, c, X, h1, h2, r⟩ := h
  exact ⟨m, A, c, X, h1, h2.fr f fun i hi => hS i (h1 i hi), r⟩
theorem Whl.fr0 (h : Whl w b F now added L) (f : Fr (fun _ => False) w w') : Whl w' b F now added L := h.fr f fun _ _ => id
theorem Whl.ids (h : Whl w b F now added L) : L.Pairwise fun x y => x.id ≠ y.id := by
  obtain ⟨m, A, c, X, h1, h2, r⟩ := h
  exact h2.ids
theorem Whl.nums (h : Whl w b F now added L) : L.Pairwise fun x y => x.num < y.num := by
  obtain ⟨m, A, c, X, h1, h2, h3, h4, r⟩ := h
  exact h4
theorem Whl.len (h : Whl w b F now added L) : L.length ≤ 1000 := by
  obtain ⟨m, A, c, X, h1, h2, h3, h4, h5, h6, r⟩ := h
  exact h6
theorem Whl.lt (h : Whl w b F now added L) : b < w.heap.size := by
  obtain ⟨m, A, c, X, h1, h2, r⟩ := h
  exact h2.lt
theorem Whl.due (h : Whl w b F now added L) : ∀ t, t ∈ L → now < t.due ∧ t.due ≤ now + 4352 := by
  obtain ⟨m, A, c, X, h1, h2, h3, r⟩ := h
  intro t ht
  rcases h3.cov t ht with h4 | ⟨i, hi, h4⟩
  · cases h4
  · have hp := (h3.sub i hi t h4).2
    refine ⟨?_, hp.le now (Nat.le_refl _) (Nat.le_refl _) (Nat.le_refl _)⟩
    rcases hp with ⟨a, b, c, d⟩ | ⟨a, b, c, d, e⟩ | ⟨a, b, c, d, e⟩ <;> omega
end

def WNew (w : World) (e : Ending) (w' : World) : Prop := e = .returned (.pointer (some ⟨w.heap.size + 1, 0, none⟩)) ∧ Whl w' (w.heap.size + 1) (fun i => w.heap.size ≤ i) 0 0 [] ∧ Fr (fun _ => False) w w'
theorem whl_new (w : World) : Calls Try.prog 9 #[] w (WNew w) := by
  refine (new_any w).mono ?_
  rintro e w' ⟨rfl, h, f⟩
  refine ⟨rfl, ⟨w.heap.size, _, _, _, ?_, h, ⟨nofun, nofun, fun _ _ => List.nodup_nil, nofun, List.nodup_nil, nofun⟩, List.Pairwise.nil, nofun, Nat.zero_le _, nofun⟩, f⟩
  rintro i (rfl | rfl | ⟨j, _, e⟩)
  · exact Nat.le_succ _
  · exact Nat.le_refl _
  · cases e

theorem Wh.not_ints {w : World} {b m now added : Nat} {A : Nat → Option Addr} {c : Nat → Nat} {X : Nat → List Tm} {L : List Tm} (h : Wh w b m now added A c X L) {R : Option Addr} {n rc : Nat} {xs : List Value} (ho : Own w 3 1 R n rc xs) {i : Nat} (hi : Wf b m A i) : R ≠ some ⟨i, 0, none⟩ := by
  rintro rfl
  rcases hi with rfl | rfl | ⟨j, hj, e⟩
  · obtain ⟨cs, hb, _⟩ := h.blk
    exact ho.block_ne hb (by decide) rfl
  · obtain ⟨es, clock, hm, _⟩ := h.map
    rcases ho.2 with ⟨h2, _⟩ | ⟨g', cur, h2, hg, _⟩
    · cases h2
    · injection h2 with h2
      injection h2 with h2
      subst h2
      rw [hm] at hg
      cases hg
  · exact ho.ne_own (h.own j hj) (by decide) rfl e

section
variable {w : World} {b now added : Nat} {F : Nat → Prop} {L : List Tm}
def WTick (w : World) (b : Nat) (F : Nat → Prop) (now added : Nat) (L : List Tm) (e : Ending) (w' : World) : Prop :=
  ∃ (R : Option Addr) (rc : Nat), e = .returned (.slice R (dueL L (now + 1)).length rc) ∧ Own w' 3 1 R (dueL L (now + 1)).length rc ((dueL L (now + 1)).map idV) ∧ Whl w' b (fun i => Fn F w i ∧ R ≠ some ⟨i, 0, none⟩) (now + 1) added (leftL L (now + 1)) ∧ Fr F w w' ∧ ∀ g, R = some ⟨g, 0, none⟩ → w.heap.size ≤ g
theorem whl_tick (h : Whl w b F now added L) (hnow : now < 1152921504606846976) : Calls Try.prog 10 #[.pointer (some ⟨b, 0, none⟩)] w (WTick w b F now added L) := by
  obtain ⟨m, A, c, X, h1, h2, h3, h4, h5, h6, h7⟩ := h
  refine (tick_any b m now added A c X L w h2 h3 h4 h6 hnow).mono ?_
  rintro e w' ⟨A', c', X', R, rc, rfl, ho, hw, hs, hf, hn, hR⟩
  refine ⟨R, rc, rfl, ho, ⟨m, A', c', X', fun i hi => ⟨(hn i hi).imp_left (h1 i), hw.not_ints ho hi⟩, hw, hs, h4.filter _, fun t ht => h5 t (List.mem_filter.1 ht).1, Nat.le_trans (List.length_filter_le _ _) h6, fun t ht => h7 t (List.mem_filter.1 ht).1⟩, hf.mono fun i _ hi => h1 i hi, hR⟩

def WAdd (w : World) (b : Nat) (F : Nat → Prop) (now added : Nat) (L : List Tm) (id : Int) (a : Nat) (e : Ending) (w' : World) : Prop :=
  e = .returned (.int .i64 0) ∧ Whl w' b (Fn F w) now (added + 1) (L ++ [⟨id, now + a, added + 1⟩]) ∧ Fr F w w'
theorem pl_slotI (now a : Nat) (t : Tm) (hd : t.due = now + a) (h1 : 1 ≤ a) (h2 : a ≤ 4095) : Pl now now now (slotI now t.due) t := by
  unfold slotI
  split
  · split
    · exact .inr (.inr ⟨by omega, by omega, rfl, by omega, by omega⟩)
    · exact .inr (.inl ⟨by omega, by omega, rfl, by omega, by omega⟩)
  · exact .inl ⟨by omega, rfl, by omega, by omega⟩
theorem St.plus {X : Nat → List Tm} {L : List Tm} {now k : Nat} {t : Tm} (h : St X L [] now now now) (hk : k < 48) (hp : Pl now now now k t) (hn : t ∉ L) : St (upd X k (X k ++ [t])) (L ++ [t]) [] now now now := by
  have h0 : St X (L ++ [t]) [t] now now now := by
    refine ⟨fun i hi s hs => ⟨List.mem_append_left _ (h.sub i hi s hs).1, (h.sub i hi s hs).2⟩, ?_, h.nd, h.un, by simp, ?_⟩
    · intro s hs
      rcases List.mem_append.1 hs with h1 | h1
      · exact .inr ((h.cov s h1).resolve_left (by simp))
      · exact .inl h1
    · intro s hs
      rw [List.mem_singleton] at hs
      subst hs
      exact ⟨by simp, fun i hi hm => hn (h.sub i hi _ hm).1⟩
  exact St.put h0 hk hp
theorem whl_add_ok (h : Whl w b F now added L) (hnow : now < 1152921504606846976) (hadd : added < 1152921504606846976) (id : Int) (a : Nat) (h1 : -9223372036854775808 ≤ id) (h2 : id ≤ 9223372036854775807) (ha1 : 1 ≤ a) (ha2 : a ≤ 4095) (hno : ∀ t, t ∈ L → t.id ≠ id) (hl : L.length < 1000) :
    Calls Try.prog 11 #[.pointer (some ⟨b, 0, none⟩), .int .i64 id, .int .i64 (a : Int)] w (WAdd w b F now added L id a) := by
  obtain ⟨m, A, c, X, g1, g2, g3, g4, g5, g6, g7⟩ := h
  refine (add_ok b m now added A c X L w id a _ rfl g2 ⟨h1, h2⟩ (by omega) (by omega) hno (by simp; omega) hnow hadd (fun i hi => by have := St.len g3 i hi; omega)).mono ?_
  rintro e w' ⟨rfl, A', c', hw, hf, hn⟩
  refine ⟨rfl, ⟨m, A', c', _, fun i hi => (hn i hi).imp_left (g1 i), hw, g3.plus (slotI_lt _ _) (pl_slotI now a ⟨id, now + a, added + 1⟩ rfl ha1 ha2) (fun hm => hno _ hm rfl), ?_, ?_, ?_, ?_⟩, hf.mono fun i _ hi => g1 i hi⟩
  · rw [List.pairwise_append]
    refine ⟨g4, by simp, fun x hx y hy => ?_⟩
    rw [List.mem_singleton] at hy
    subst hy
    have := g5 x hx
    show x.num < added + 1
    omega
  · intro t ht
    rcases List.mem_append.1 ht with h3 | h3
    · have := g5 t h3; omega
    · rw [List.mem_singleton] at h3; subst h3; exact Nat.le_refl _
  · rw [List.length_append]; simp; omega
  · intro t ht
    rcases List.mem_append.1 ht with h3 | h3
    · exact g7 t h3
    · rw [List.mem_singleton] at h3; subst h3; exact ⟨h1, h2⟩
/-- r is why Add refuses. -/
def AddNo (L : List Tm) (id a r : Int) : Prop := ((a < 1 ∨ 4095 < a) ∧ r = 1) ∨ (1 ≤ a ∧ a ≤ 4095 ∧ (∃ t, t ∈ L ∧ t.id = id) ∧ r = 160) ∨ (1 ≤ a ∧ a ≤ 4095 ∧ (∀ t, t ∈ L → t.id ≠ id) ∧ L.length = 1000 ∧ r = 161)
theorem whl_add_no (h : Whl w b F now added L) (id a r : Int) (h1 : -9223372036854775808 ≤ id) (h2 : id ≤ 9223372036854775807) (hr : AddNo L id a r) :
    Calls Try.prog 11 #[.pointer (some ⟨b, 0, none⟩), .int .i64 id, .int .i64 a] w fun e w' => e = .returned (.int .i64 r) ∧ Fr (fun _ => False) w w' := by
  obtain ⟨m, A, c, X, g1, g2, g3, g4, g5, g6, g7⟩ := h
  rcases hr with ⟨ha | ha, rfl⟩ | ⟨ha1, ha2, ⟨t, ht, rfl⟩, rfl⟩ | ⟨ha1, ha2, hno, hl, rfl⟩
  · by_cases hno : ∀ t ∈ L, t.id ≠ id
    · exact add_lo_no b m now added A c X L w g2 id a h1 h2 hno ha
    · simp only [Classical.not_forall, ne_eq, Classical.not_not] at hno
      obtain ⟨t, ht, rfl⟩ := hno
      exact add_lo_yes b m now added A c X L w g2 t ht a ha
  · by_cases hno : ∀ t ∈ L, t.id ≠ id
    · exact add_hi_no b m now added A c X L w g2 id a h1 h2 hno ha
    · simp only [Classical.not_forall, ne_eq, Classical.not_not] at hno
      obtain ⟨t, ht, rfl⟩ := hno
      exact add_hi_yes b m now added A c X L w g2 t ht a ha
  · exact add_there b m now added A c X L w g2 t ht a (by omega) (by omega)
  · exact add_full b m now added A c X L w g2 id a h1 h2 hno (by omega) (by omega) hl
theorem whl_len (h : Whl w b F now added L) : Calls Try.prog 13 #[.pointer (some ⟨b, 0, none⟩)] w fun e w' => e = .returned (.int .i64 (L.length : Int)) ∧ w = w' := by
  obtain ⟨m, A, c, X, g1, g2, r⟩ := h
  exact len_any b m now added A c X L w g2
theorem whl_now (h : Whl w b F now added L) : Calls Try.prog 22 #[.pointer (some ⟨b, 0, none⟩)] w fun e w' => e = .returned (.int .i64 (now : Int)) ∧ w = w' := by
  obtain ⟨m, A, c, X, g1, g2, r⟩ := h
  exact now_any b m now added A c X L w g2
theorem whl_left_no (h : Whl w b F now added L) (id : Int) (h1 : -9223372036854775808 ≤ id) (h2 : id ≤ 9223372036854775807) (hno : ∀ t, t ∈ L → t.id ≠ id) :
    Calls Try.prog 20 #[.pointer (some ⟨b, 0, none⟩), .int .i64 id] w fun e w' => e = .returned (.tuple #[.int .i64 0, .bool false]) ∧ Fr (fun _ => False) w w' := by
  obtain ⟨m, A, c, X, g1, g2, r⟩ := h
  exact left_none b m now added A c X L w g2 id h1 h2 hno
theorem whl_left_yes (h : Whl w b F now added L) (hnow : now < 1152921504606846976) (t : Tm) (ht : t ∈ L) :
    Calls Try.prog 20 #[.pointer (some ⟨b, 0, none⟩), .int .i64 t.id] w fun e w' => e = .returned (.tuple #[.int .i64 ((t.due : Int) - (now : Int)), .bool true]) ∧ Fr (fun _ => False) w w' := by
  have hd := h.due t ht
  obtain ⟨m, A, c, X, g1, g2, r⟩ := h
  exact left_some b m now added A c X L w g2 t ht (by omega) (by omega)
theorem whl_next (h : Whl w b F now added L) (hnow : now < 1152921504606846976) : Calls Try.prog 23 #[.pointer (some ⟨b, 0, none⟩)] w (Nexts w L now) := by
  have hd := h.due
  obtain ⟨m, A, c, X, g1, g2, r⟩ := h
  exact next_any b m now added A c X L w g2 fun t ht => by have := hd t ht; omega
theorem whl_cancel_no (h : Whl w b F now added L) (id : Int) (h1 : -9223372036854775808 ≤ id) (h2 : id ≤ 9223372036854775807) (hno : ∀ t, t ∈ L → t.id ≠ id) :
    Calls Try.prog 16 #[.pointer (some ⟨b, 0, none⟩), .int .i64 id] w fun e w' => e = .returned (.bool false) ∧ Fr (fun _ => False) w w' := by
  obtain ⟨m, A, c, X, g1, g2, r⟩ := h
  exact cancel_no b m now added A c X L w g2 id h1 h2 hno
def WCan (w : World) (b : Nat) (F : Nat → Prop) (now added : Nat) (L : List Tm) (t : Tm) (e : Ending) (w' : World) : Prop := e = .returned (.bool true) ∧ Whl w' b (Fn F w) now added (noT t L) ∧ Fr F w w'
theorem whl_cancel_yes (h : Whl w b F now added L) (hnow : now < 1152921504606846976) (t : Tm) (ht : t ∈ L) : Calls Try.prog 16 #[.pointer (some ⟨b, 0, none⟩), .int .i64 t.id] w (WCan w b F now added L t) := by
  have hd := h.due t ht
  obtain ⟨m, A, c, X, g1, g2, g3, g4, g5, g6, g7⟩ := h
  refine (cancel_yes b m now added A c X L w g2 g3 t ht g6 (by omega)).mono ?_
  rintro e w' ⟨rfl, A', c', X', hw, hs, hf, hn⟩
  exact ⟨rfl, ⟨m, A', c', X', fun i hi => (hn i hi).imp_left (g1 i), hw, hs, g4.filter _, fun t ht => g5 t (List.mem_filter.1 ht).1, Nat.le_trans (List.length_filter_le _ _) g6, fun t ht => g7 t (List.mem_filter.1 ht).1⟩, hf.mono fun i _ hi => g1 i hi⟩
end
end Go.Proofs.Ytgmeebpgncenmaa
