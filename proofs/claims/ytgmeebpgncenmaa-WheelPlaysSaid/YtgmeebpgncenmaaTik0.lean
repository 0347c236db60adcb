/- Words for Tick. -/
import Derived.Test.YtgmeebpgncenmaaTk
import Derived.Test.YtgmeebpgncenmaaAdd
namespace Go.Proofs.Ytgmeebpgncenmaa
open Go.RowKit

section
variable {X : Nat → List Tm} {L : List Tm} {now : Nat}
/-- What the rims hold before the round r of a tick. -/
def StR (X : Nat → List Tm) (L : List Tm) (rest : List Tm) (now r : Nat) : Prop := St X L rest now (if r < 1 then now + 1 else now) (if r < 2 then now + 1 else now)
def slotR (now : Nat) : Nat → Nat
  | 2 => 32 + (now + 1) / 256 % 16
  | _ => 16 + (now + 1) / 16 % 16
def spanR : Nat → Nat
  | 2 => 256
  | _ => 16
theorem slotR_lt (now r : Nat) : slotR now r < 48 := by unfold slotR; split <;> omega
theorem StR.same2 (h : StR X L [] now 2) (hm : (now + 1) % 256 ≠ 0) : StR X L [] now 1 :=
  ⟨fun i hi t ht => ⟨(h.sub i hi t ht).1, pl_same2 hm (h.sub i hi t ht).2⟩, h.cov, h.nd, h.un, h.rnd, h.rin⟩
theorem StR.same1 (h : StR X L [] now 1) (hm : (now + 1) % 16 ≠ 0) : StR X L [] now 0 :=
  ⟨fun i hi t ht => ⟨(h.sub i hi t ht).1, pl_same1 hm (h.sub i hi t ht).2⟩, h.cov, h.nd, h.un, h.rnd, h.rin⟩
theorem StR.take2 (h : StR X L [] now 2) (hm : (now + 1) % 256 = 0) : StR (upd X (32 + (now + 1) / 256 % 16) []) L (X (32 + (now + 1) / 256 % 16)) now 1 ∧ ∀ t, t ∈ X (32 + (now + 1) / 256 % 16) → now + 1 ≤ t.due ∧ Pl now now (now + 1) (slotI (now + 1) t.due) t :=
  ⟨St.take (m1 := now) (m2 := now + 1) h (by omega) fun i hi hne t ht hp => pl_keep2 hne hp, fun t ht => pl_put2 hm (h.sub _ (by omega) t ht).2⟩
theorem StR.take1 (h : StR X L [] now 1) (hm : (now + 1) % 16 = 0) : StR (upd X (16 + (now + 1) / 16 % 16) []) L (X (16 + (now + 1) / 16 % 16)) now 0 ∧ ∀ t, t ∈ X (16 + (now + 1) / 16 % 16) → now + 1 ≤ t.due ∧ Pl now (now + 1) (now + 1) (slotI (now + 1) t.due) t :=
  ⟨St.take (m1 := now + 1) (m2 := now + 1) h (by omega) fun i hi hne t ht hp => pl_keep1 hne hp, fun t ht => pl_put1 hm (h.sub _ (by omega) t ht).2⟩
theorem nodup_len : ∀ {l m : List Tm}, l.Nodup → (∀ t, t ∈ l → t ∈ m) → l.length ≤ m.length
  | [], m, _, _ => Nat.zero_le _
  | x :: r, m, hn, hs => by
    have h1 := List.nodup_cons.1 hn
    have hx : x ∈ m := hs x (by simp)
    have := nodup_len (l := r) (m := m.erase x) h1.2 fun t ht => (List.mem_erase_of_ne (by rintro rfl; exact h1.1 ht)).2 (hs t (by simp [ht]))
    rw [List.length_erase_of_mem hx] at this
    have : 0 < m.length := List.length_pos_of_mem hx
    simp; omega
theorem St.len {rest : List Tm} {n0 n1 n2 : Nat} (h : St X L rest n0 n1 n2) (i : Nat) (hi : i < 48) : (X i).length ≤ L.length := nodup_len (h.nd i hi) fun t ht => (h.sub i hi t ht).1
theorem St.due_le {rest : List Tm} {n0 n1 n2 : Nat} (h : St X L rest n0 n1 n2) (i : Nat) (hi : i < 48) (t : Tm) (ht : t ∈ X i) (B : Nat) (h0 : n0 ≤ B) (h1 : n1 ≤ B) (h2 : n2 ≤ B) : t.due ≤ B + 4352 := by
  rcases (h.sub i hi t ht).2 with ⟨a, b, c, d⟩ | ⟨a, b, c, d, e⟩ | ⟨a, b, c, d, e⟩ <;> omega
end

theorem Pl.le {n0 n1 n2 i : Nat} {t : Tm} (h : Pl n0 n1 n2 i t) (B : Nat) (h0 : n0 ≤ B) (h1 : n1 ≤ B) (h2 : n2 ≤ B) : t.due ≤ B + 4352 := by
  rcases h with ⟨a, b, c, d⟩ | ⟨a, b, c, d, e⟩ | ⟨a, b, c, d, e⟩ <;> omega
/-- Those who are due. -/
def dueL (L : List Tm) (n : Nat) : List Tm := L.filter fun t => decide (t.due = n)
def leftL (L : List Tm) (n : Nat) : List Tm := L.filter fun t => decide (t.due ≠ n)
def idV (t : Tm) : Value := .int .i64 t.id

/-- What a tick leaves. -/
def Ticked (w : World) (b m now added : Nat) (A : Nat → Option Addr) (L : List Tm) (e : Ending) (w' : World) : Prop :=
  ∃ (A' : Nat → Option Addr) (c' : Nat → Nat) (X' : Nat → List Tm) (R : Option Addr) (rc : Nat),
    e = .returned (.slice R (dueL L (now + 1)).length rc) ∧ Own w' 3 1 R (dueL L (now + 1)).length rc ((dueL L (now + 1)).map idV) ∧
    Wh w' b m (now + 1) added A' c' X' (leftL L (now + 1)) ∧ St X' (leftL L (now + 1)) [] (now + 1) (now + 1) (now + 1) ∧ Fr (Wf b m A) w w' ∧
    (∀ i, Wf b m A' i → Wf b m A i ∨ w.heap.size ≤ i) ∧ ∀ g, R = some ⟨g, 0, none⟩ → w.heap.size ≤ g

/-- The wheel under way in a tick. -/
def Mid (w : World) (b m now nw added : Nat) (A0 : Nat → Option Addr) (L : List Tm) (r : Nat) (w' : World) : Prop :=
  ∃ A c X, Wh w' b m nw added A c X L ∧ StR X L [] now r ∧ Fr (Wf b m A0) w w' ∧ ∀ i, Wf b m A i → Wf b m A0 i ∨ w.heap.size ≤ i


theorem Wh.clear {w : World} {b m now added : Nat} {A : Nat → Option Addr} {c : Nat → Nat} {X : Nat → List Tm} {L : List Tm} (h : Wh w b m now added A c X L) {k : Nat} (hk : k < 48) :
    Wh (w.setCell ⟨b, 2 + k, none⟩ (.slice none 0 0)) b m now added (upd A k none) (upd c k 0) (upd X k []) L := h.put (Y := []) hk (Fr.refl _ _) (Own.nil_ _ _ _) nofun

/-- The wheel while a slot's timers, which lie in B, are laid into other slots; rest are still to be laid. -/
def Lay (w : World) (b m now nw added : Nat) (A0 : Nat → Option Addr) (L : List Tm) (r : Nat) (B : Option Addr) (cb : Nat) (l rest : List Tm) (w' : World) : Prop :=
  ∃ A c X, Wh w' b m nw added A c X L ∧ StR X L rest now r ∧ Fr (Wf b m A0) w w' ∧ (∀ i, Wf b m A i → Wf b m A0 i ∨ w.heap.size ≤ i) ∧
    Own w' 55 3 B l.length cb (tcs l) ∧ ∀ g, B = some ⟨g, 0, none⟩ → ¬ Wf b m A g

theorem wf_upd {b m k g' : Nat} {A A0 : Nat → Option Addr} {S : Nat → Prop} (hk : k < 48) (h : ∀ i, Wf b m A i → Wf b m A0 i ∨ S i) (hg : A k = some ⟨g', 0, none⟩ ∨ S g') :
    ∀ i, Wf b m (upd A k (some ⟨g', 0, none⟩)) i → Wf b m A0 i ∨ S i := by
  rintro i (rfl | rfl | ⟨j, hj, e⟩)
  · exact h _ (.inl rfl)
  · exact h _ (.inr (.inl rfl))
  · by_cases ej : j = k
    · subst ej
      rw [upd_same] at e
      rw [Option.some.injEq, Addr.mk.injEq] at e
      rw [← e.1]
      rcases hg with h1 | h1
      · exact h _ (.inr (.inr ⟨j, hj, h1⟩))
      · exact .inr h1
    · rw [upd_other _ _ ej] at e
      exact h _ (.inr (.inr ⟨j, hj, e⟩))
theorem wf_none {b m k : Nat} {A : Nat → Option Addr} (i : Nat) (h : Wf b m (upd A k none) i) : Wf b m A i := by
  rcases h with h | h | ⟨j, hj, e⟩
  · exact .inl h
  · exact .inr (.inl h)
  · by_cases ej : j = k
    · subst ej
      rw [upd_same] at e
      cases e
    · rw [upd_other _ _ ej] at e
      exact .inr (.inr ⟨j, hj, e⟩)

section
variable {w W W5 : World} {b m now nw added r : Nat} {A0 A : Nat → Option Addr} {c : Nat → Nat} {X : Nat → List Tm} {L rest l : List Tm} {B : Option Addr} {cb : Nat} {t : Tm}
theorem Lay.begin_ (h : Wh W b m nw added A c X L) {k : Nat} (hk : k < 48) (s : StR (upd X k []) L (X k) now r) (f : Fr (Wf b m A0) w W) (n : ∀ i, Wf b m A i → Wf b m A0 i ∨ w.heap.size ≤ i) :
    Lay w b m now nw added A0 L r (A k) (c k) (X k) (X k) (W.setCell ⟨b, 2 + k, none⟩ (.slice none 0 0)) := by
  refine ⟨_, _, _, h.clear hk, s, f.setCell (.inl (.inl rfl)) _, fun i hi => n i (wf_none i hi), (h.own k hk).fr (S := fun i => i = b) ((Fr.refl (fun i => i = b) _).setCell (.inl rfl) _) fun g hg => h.ba hk hg, ?_⟩
  rintro g hg (h1 | h1 | ⟨j, hj, e⟩)
  · exact h.ba hk hg h1
  · exact h.ma hk hg h1
  · by_cases ej : j = k
    · subst ej
      rw [upd_same] at e
      cases e
    · rw [upd_other _ _ ej] at e
      exact ej (h.dis j k g hj hk e hg)
theorem Lay.put (h : Wh W b m nw added A c X L) (s : StR X L (t :: rest) now r) (f : Fr (Wf b m A0) w W) (n : ∀ i, Wf b m A i → Wf b m A0 i ∨ w.heap.size ≤ i)
    (ol : Own W 55 3 B l.length cb (tcs l)) (nb : ∀ g, B = some ⟨g, 0, none⟩ → ¬ Wf b m A g) {k : Nat} (hk : k < 48)
    (hp : Pl now (if r < 1 then now + 1 else now) (if r < 2 then now + 1 else now) k t)
    (f7 : Fr (fun i => A k = some ⟨i, 0, none⟩) W W5) {g' c' : Nat} (ho : Own W5 55 3 (some ⟨g', 0, none⟩) ((X k).length + 1) c' (tcs (X k) ++ t.cs)) (hg' : A k = some ⟨g', 0, none⟩ ∨ W.heap.size ≤ g') :
    Lay w b m now nw added A0 L r B cb l rest (W5.setCell ⟨b, 2 + k, none⟩ (.slice (some ⟨g', 0, none⟩) ((X k).length + 1) c')) := by
  have ho' : Own W5 55 3 (some ⟨g', 0, none⟩) (X k ++ [t]).length c' (tcs (X k ++ [t])) := by
    rw [tcs_append, tcs_one, List.length_append]; exact ho
  have hX := h.put hk f7 ho' (fun g'' e => by rw [Option.some.injEq, Addr.mk.injEq] at e; rw [← e.1]; exact hg')
  simp only [List.length_append, List.length_singleton] at hX
  refine ⟨_, _, _, hX, St.put s hk hp, (f.step f7 (fun i hi => n i (.inr (.inr ⟨k, hk, hi⟩)))).setCell (.inl (.inl rfl)) _, ?_, ?_, ?_⟩
  · exact wf_upd hk n (hg'.imp_right fun h1 => Nat.le_trans f.size h1)
  · refine (ol.fr f7 fun g hg hA => nb g hg (.inr (.inr ⟨k, hk, hA⟩))).fr (S := fun i => i = b) ((Fr.refl (fun i => i = b) _).setCell (.inl rfl) _) fun g hg e => nb g hg (.inl e)
  · intro g hg hw
    have hlt := ol.lt hg
    rcases wf_upd (A0 := A) (S := fun i => W.heap.size ≤ i) hk (fun i hi => .inl hi) hg' g hw with h1 | h1
    · exact nb g hg h1
    · omega
theorem Lay.fr0 {W' : World} (h : Lay w b m now nw added A0 L r B cb l rest W) (f : Fr (fun _ => False) W W') : Lay w b m now nw added A0 L r B cb l rest W' := by
  obtain ⟨A, c, X, h1, s1, f1, n1, o1, b1⟩ := h
  exact ⟨A, c, X, h1.fr0 f, s1, f1.step f fun i hi => hi.elim, n1, o1.fr f fun _ _ => id, b1⟩
theorem Lay.done (h : Lay w b m now nw added A0 L r B cb l [] W) : Mid w b m now nw added A0 L r W := by
  obtain ⟨A, c, X, h1, s1, f1, n1, o1, b1⟩ := h
  exact ⟨A, c, X, h1, s1, f1, n1⟩
end

/-! ### the slot of this tick -/
theorem due_sorted {X : Nat → List Tm} {L d : List Tm} {now : Nat} (h : St X L [] now (now + 1) (now + 1)) (hnum : L.Pairwise fun x y => x.num < y.num) (hp : d.Perm (X ((now + 1) % 16))) (hs : d.Pairwise fun x y => x.num ≤ y.num) : d = dueL L (now + 1) := by
  have hk : (now + 1) % 16 < 48 := by omega
  have hd : (dueL L (now + 1)).Pairwise fun x y => x.num < y.num := hnum.filter _
  have hnd : (dueL L (now + 1)).Nodup := hd.imp fun {a b} hab e => by subst e; exact Nat.lt_irrefl _ hab
  have hnd' : d.Nodup := hp.nodup_iff.2 (h.nd _ hk)
  have hmem : ∀ t, t ∈ d ↔ t ∈ dueL L (now + 1) := fun t => by
    rw [hp.mem_iff, h.due]
    simp [dueL]
  have hpp : d.Perm (dueL L (now + 1)) := (List.perm_ext_iff_of_nodup hnd' hnd).2 hmem
  refine List.Perm.eq_of_pairwise (le := fun x y : Tm => x.num ≤ y.num) ?_ hs (hd.imp fun {a b} hab => Nat.le_of_lt hab) hpp
  intro a b ha hb h1 h2
  have ha' := (List.mem_filter.1 ((hmem a).1 ha)).1
  have hb' := (List.mem_filter.1 hb).1
  have hne : ∀ x y, x ∈ L → y ∈ L → x.num = y.num → x = y := by
    intro x y hx hy e
    obtain ⟨i, hi, rfl⟩ := List.mem_iff_getElem.1 hx
    obtain ⟨j, hj, rfl⟩ := List.mem_iff_getElem.1 hy
    rw [List.pairwise_iff_getElem] at hnum
    rcases Nat.lt_trichotomy i j with hij | rfl | hij
    · have := hnum i j hi hj hij; omega
    · rfl
    · have := hnum j i hj hi hij; omega
  exact hne a b ha' hb' (by omega)

/-- All but those of the ids of D. -/
def lessL (L D : List Tm) : List Tm := L.filter fun t => D.all fun s => decide (s.id ≠ t.id)
theorem lessL_nil (L : List Tm) : lessL L [] = L := by simp [lessL]
theorem lessL_snoc (L D : List Tm) (t : Tm) : lessL L (D ++ [t]) = (lessL L D).filter fun s => decide (s.id ≠ t.id) := by
  unfold lessL
  rw [List.filter_filter]
  congr 1
  funext s
  simp only [List.all_append, List.all_cons, List.all_nil, Bool.and_true, ne_eq]
  rw [Bool.and_comm]
  congr 1
  by_cases e : t.id = s.id
  · simp [e]
  · simp [e, Ne.symm e]
theorem lessL_due {L : List Tm} (hid : L.Pairwise fun x y => x.id ≠ y.id) (n : Nat) : lessL L (dueL L n) = leftL L n := by
  unfold lessL leftL
  apply List.filter_congr
  intro t ht
  rw [Bool.eq_iff_iff]
  simp only [List.all_eq_true, decide_eq_true_eq, dueL, List.mem_filter]
  constructor
  · intro h e
    exact h t ⟨ht, e⟩ rfl
  · rintro h s ⟨hs, hd⟩ e
    refine h ?_
    have : s = t := by
      obtain ⟨i, hi, rfl⟩ := List.mem_iff_getElem.1 hs
      obtain ⟨j, hj, rfl⟩ := List.mem_iff_getElem.1 ht
      rw [List.pairwise_iff_getElem] at hid
      rcases Nat.lt_trichotomy i j with hij | rfl | hij
      · exact absurd e (hid i j hi hj hij)
      · rfl
      · exact absurd e.symm (hid j i hj hi hij)
    rw [← this]
    exact hd
theorem lessL_mem {L D : List Tm} (hid : L.Pairwise fun x y => x.id ≠ y.id) {t : Tm} (ht : t ∈ L) (hD : ∀ s, s ∈ D → s ∈ L) (hn : t ∉ D) : t ∈ lessL L D := by
  refine List.mem_filter.2 ⟨ht, ?_⟩
  rw [List.all_eq_true]
  intro s hs
  rw [decide_eq_true_eq]
  intro e
  refine hn ?_
  have : s = t := by
    obtain ⟨i, hi, rfl⟩ := List.mem_iff_getElem.1 (hD s hs)
    obtain ⟨j, hj, rfl⟩ := List.mem_iff_getElem.1 ht
    rw [List.pairwise_iff_getElem] at hid
    rcases Nat.lt_trichotomy i j with hij | rfl | hij
    · exact absurd e (hid i j hi hj hij)
    · rfl
    · exact absurd e.symm (hid j i hj hi hij)
  rw [← this]
  exact hs
theorem Wh.ids {w : World} {b m now added : Nat} {A : Nat → Option Addr} {c : Nat → Nat} {X : Nat → List Tm} {L : List Tm} (h : Wh w b m now added A c X L) : L.Pairwise fun x y => x.id ≠ y.id := by
  have := h.map.apart
  rw [List.pairwise_map] at this
  exact this
/-- In the map one is struck. -/
theorem strike {L : List Tm} (hid : L.Pairwise fun x y => x.id ≠ y.id) {i : Nat} {t : Tm} (hi : L[i]? = some t) :
    (L.map fun t => (t.id, t)).eraseIdx i = ((L.filter fun s => decide (s.id ≠ t.id)).map fun t => (t.id, t)) := by
  have h1 : (L.map fun t => (t.id, t)).Pairwise fun p q => p.1 ≠ q.1 := by rw [List.pairwise_map]; exact hid
  have h2 : (L.map fun t => (t.id, t))[i]? = some (t.id, t) := by rw [List.getElem?_map, hi]; rfl
  rw [erase_filter h1 h2, List.filter_map]
  rfl

section
variable {w W W5 : World} {b m nw added : Nat} {A0 A : Nat → Option Addr} {c : Nat → Nat} {X : Nat → List Tm} {L : List Tm} {D : Option Addr}
/-- A row of the call's own has grown; the wheel is as it was. -/
theorem apart_step (h : Wh W b m nw added A c X L) (nd : ∀ g, D = some ⟨g, 0, none⟩ → w.heap.size ≤ g ∧ ¬ Wf b m A g) (f : Fr (Wf b m A0) w W) (f7 : Fr (fun i => D = some ⟨i, 0, none⟩) W W5) {g' : Nat} (hg' : D = some ⟨g', 0, none⟩ ∨ W.heap.size ≤ g') :
    Wh W5 b m nw added A c X L ∧ Fr (Wf b m A0) w W5 ∧ w.heap.size ≤ g' ∧ ¬ Wf b m A g' := by
  refine ⟨h.fr f7 fun i hi hD => (nd i hD).2 hi, f.step f7 fun i hi => .inr (nd i hi).1, ?_⟩
  rcases hg' with h1 | h1
  · exact nd g' h1
  · exact ⟨Nat.le_trans f.size h1, fun h2 => by have := h.in_ h2; omega⟩
theorem Own.ne_own {w : World} {e e' : TypeId} {size size' n n' c c' : Nat} {xs xs' : List Value} {A A' : Option Addr} (h : Own w e size A n c xs) (h' : Own w e' size' A' n' c' xs') (hne : e ≠ e') {g : Nat} (h1 : A = some ⟨g, 0, none⟩) : A' ≠ some ⟨g, 0, none⟩ := by
  intro h2
  subst h1
  subst h2
  rcases h.2 with ⟨h3, _⟩ | ⟨g1, cur, h3, hg, _⟩
  · cases h3
  · rcases h'.2 with ⟨h4, _⟩ | ⟨g2, cur', h4, hg', _⟩
    · cases h4
    · injection h3 with h3
      injection h4 with h4
      injection h3 with h3
      injection h4 with h4
      subst h3
      subst h4
      rw [hg] at hg'
      injection hg' with hg'
      injection hg' with _ ht
      exact hne ht
end

/-- The wheel while those who are due are gathered in D; xs: the cells so far. -/
def Gath (w : World) (b m nw added : Nat) (A0 A : Nat → Option Addr) (c : Nat → Nat) (X : Nat → List Tm) (L : List Tm) (D : Option Addr) (n dc : Nat) (xs : List Value) (w' : World) : Prop :=
  Own w' 55 3 D n dc xs ∧ Wh w' b m nw added A c X L ∧ Fr (Wf b m A0) w w' ∧ ∀ g, D = some ⟨g, 0, none⟩ → w.heap.size ≤ g ∧ ¬ Wf b m A g
section
variable {w W W5 : World} {b m nw added n dc : Nat} {A0 A : Nat → Option Addr} {c : Nat → Nat} {X : Nat → List Tm} {L : List Tm} {D : Option Addr} {xs : List Value}
theorem Gath.fr0 (h : Gath w b m nw added A0 A c X L D n dc xs W) (f : Fr (fun _ => False) W W5) : Gath w b m nw added A0 A c X L D n dc xs W5 :=
  ⟨h.1.fr f fun _ _ => id, h.2.1.fr0 f, h.2.2.1.step f fun _ hi => hi.elim, h.2.2.2⟩
theorem Gath.more (h : Gath w b m nw added A0 A c X L D n dc xs W) {g' n' c' : Nat} {ys : List Value} (ho : Own W5 55 3 (some ⟨g', 0, none⟩) n' c' ys) (f7 : Fr (fun i => D = some ⟨i, 0, none⟩) W W5) (hg' : D = some ⟨g', 0, none⟩ ∨ W.heap.size ≤ g') :
    Gath w b m nw added A0 A c X L (some ⟨g', 0, none⟩) n' c' ys W5 := by
  obtain ⟨h1, h2, h3, h4⟩ := apart_step h.2.1 h.2.2.2 h.2.2.1 f7 hg'
  exact ⟨ho, h1, h2, fun g e => by rw [Option.some.injEq, Addr.mk.injEq] at e; rw [← e.1]; exact ⟨h3, h4⟩⟩
end
section
variable {w W W5 : World} {b m nw added n dc : Nat} {A0 A : Nat → Option Addr} {c : Nat → Nat} {X : Nat → List Tm} {L : List Tm} {D : Option Addr} {xs ys : List Value}
theorem Gath.clear (h : Gath w b m nw added A0 A c X L D n dc xs W) {k : Nat} (hk : k < 48) :
    Gath w b m nw added A0 (upd A k none) (upd c k 0) (upd X k []) L D n dc xs (W.setCell ⟨b, 2 + k, none⟩ (.slice none 0 0)) :=
  ⟨h.1.fr (S := fun i => i = b) ((Fr.refl (fun i => i = b) _).setCell (.inl rfl) _) fun g hg e => (h.2.2.2 g hg).2 (.inl e), h.2.1.clear hk, h.2.2.1.setCell (.inl (.inl rfl)) _, fun g hg => ⟨(h.2.2.2 g hg).1, fun hw => (h.2.2.2 g hg).2 (wf_none g hw)⟩⟩
theorem Gath.turned (h : Gath w b m nw added A0 A c X L D n dc xs W) (ho : Own W5 55 3 D n dc ys) (f : Fr (fun i => D = some ⟨i, 0, none⟩) W W5) : Gath w b m nw added A0 A c X L D n dc ys W5 :=
  ⟨ho, h.2.1.fr f fun i hi hD => (h.2.2.2 i hD).2 hi, h.2.2.1.step f fun i hi => .inr (h.2.2.2 i hi).1, h.2.2.2⟩
/-- The map is another one now. -/
theorem Gath.remap (h : Gath w b m nw added A0 A c X L D n dc xs W) {L' : List Tm} (f : Fr (fun i => i = m) W W5) (hm : MapIs Try.prog 3 kfI Tm.v W5 m (L'.map fun t => (t.id, t))) : Gath w b m nw added A0 A c X L' D n dc xs W5 :=
  ⟨h.1.fr f fun g hg e => (h.2.2.2 g hg).2 (.inr (.inl e)), h.2.1.remap f hm, h.2.2.1.step f fun _ hi => .inl (.inr (.inl hi)), h.2.2.2⟩
/-- The list of the ids grows. -/
theorem Gath.told (h : Gath w b m nw added A0 A c X L D n dc xs W) {R : Option Addr} {j rc : Nat} {zs : List Value} (hR : Own W 3 1 R j rc zs) (hn : ∀ g, R = some ⟨g, 0, none⟩ → w.heap.size ≤ g ∧ ¬ Wf b m A g)
    {g' : Nat} (f : Fr (fun i => R = some ⟨i, 0, none⟩) W W5) (hg' : R = some ⟨g', 0, none⟩ ∨ W.heap.size ≤ g') :
    Gath w b m nw added A0 A c X L D n dc xs W5 ∧ w.heap.size ≤ g' ∧ ¬ Wf b m A g' := by
  obtain ⟨h1, h2, h3⟩ := apart_step h.2.1 hn h.2.2.1 f hg'
  exact ⟨⟨h.1.fr f fun g hg => hR.ne_own h.1 (by decide) (g := g) |> fun k e => k e hg, h1, h2, h.2.2.2⟩, h3⟩
end
theorem dueL_mem {L : List Tm} {n : Nat} {t : Tm} (h : t ∈ dueL L n) : t ∈ L := (List.mem_filter.1 h).1
theorem dueL_nodup {L : List Tm} (hnum : L.Pairwise fun x y => x.num < y.num) (n : Nat) : (dueL L n).Nodup := by
  have hd : (dueL L n).Pairwise fun x y => x.num < y.num := hnum.filter _
  exact hd.imp fun {a b} hab e => by subst e; exact Nat.lt_irrefl _ hab
theorem nodup_take {l : List Tm} (h : l.Nodup) {j : Nat} {t : Tm} (ht : l[j]? = some t) : t ∉ l.take j := by
  intro hm
  obtain ⟨i, hi, he⟩ := List.mem_iff_getElem.1 hm
  rw [List.length_take] at hi
  rw [List.getElem_take] at he
  obtain ⟨hj, hj'⟩ := List.getElem?_eq_some_iff.1 ht
  have hn := List.pairwise_iff_getElem.1 h i j (by omega) hj (by omega)
  exact hn (he.trans hj'.symm)
theorem due_next {L : List Tm} (hnum : L.Pairwise fun x y => x.num < y.num) (hid : L.Pairwise fun x y => x.id ≠ y.id) {n j : Nat} {t : Tm} (ht : (dueL L n)[j]? = some t) : ∃ i : Nat, (lessL L ((dueL L n).take j))[i]? = some t := by
  have h1 := lessL_mem (D := (dueL L n).take j) hid (dueL_mem (List.mem_of_getElem? ht)) (fun s hs => dueL_mem (List.mem_of_mem_take hs)) (nodup_take (dueL_nodup hnum n) ht)
  exact List.getElem?_of_mem h1
theorem info_i64 : (Try.prog.info? 3).map (fun i => (i.zero, i.size, i.bytes)) = some (some (.int .i64 0), 1, 8) := by kernel_rfl
end Go.Proofs.Ytgmeebpgncenmaa
