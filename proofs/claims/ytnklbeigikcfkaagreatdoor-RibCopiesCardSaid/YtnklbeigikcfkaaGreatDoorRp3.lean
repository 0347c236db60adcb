/- What becomes of a right row: put, dropped, flushed; how many; which hold an address. -/
import Derived.Test.YtnklbeigikcfkaaGreatDoorRp2
namespace Go.Proofs.YtnklbeigikcfkaaGreatDoor
variable {cls : Ad → Int}
def noW (p : Px) (x : Pa) (L : List Td) : List Td := L.filter fun u => !wayT p x u
theorem wayT_self (p : Px) (x : Pa) : wayT p x (p, x) = true := by simp [wayT, sameW_refl]
theorem mem_noW {p : Px} {x : Pa} {L : List Td} {u : Td} : u ∈ noW p x L ↔ u ∈ L ∧ wayT p x u = false := by
  unfold noW
  rw [List.mem_filter, Bool.not_eq_true']
theorem paths_noW (L : List Td) (p : Px) (x : Pa) : pathsT (noW p x L) p = (pathsT L p).filter fun y => !sameW x y := by
  unfold noW
  rw [pathsT_filter]
  refine List.filter_congr fun y _ => ?_
  simp [wayT]
theorem paths_noW_ne {p q : Px} (h : q ≠ p) (L : List Td) (x : Pa) : pathsT (noW p x L) q = pathsT L q := by
  unfold noW
  rw [pathsT_filter]
  refine List.filter_eq_self.2 fun y _ => ?_
  simp [wayT, h]
theorem one_symm : ∀ {u v : Td}, ¬ (u.1 = v.1 ∧ sameW u.2 v.2 = true) → ¬ (v.1 = u.1 ∧ sameW v.2 u.2 = true) := fun h k => h ⟨k.1.symm, by rw [sameW_comm]; exact k.2⟩
theorem RowT.non {L : List Td} (h : RowT cls L) (p : Px) (x : Pa) : (noW p x L).Pairwise (fun u v => aheadT u v = true) ∧ (∀ u ∈ noW p x L, u ∈ L) ∧ (noW p x L).Pairwise fun u v => ¬ (u.1 = v.1 ∧ sameW u.2 v.2 = true) :=
  ⟨h.up.filter _, fun _ hu => (mem_noW.1 hu).1, h.one.filter _⟩
/-- What is put among others of another way. -/
theorem ins_row {L : List Td} {p : Px} {x : Pa} (up : L.Pairwise fun u v => aheadT u v = true) (may : ∀ u ∈ L, mayP cls u.1 u.2 = true) (one : L.Pairwise fun u v => ¬ (u.1 = v.1 ∧ sameW u.2 v.2 = true))
    (hno : ∀ u ∈ L, wayT p x u = false) (hm : mayP cls p x = true) :
    (insT (p, x) L).Pairwise (fun u v => aheadT u v = true) ∧ (∀ u ∈ insT (p, x) L, mayP cls u.1 u.2 = true) ∧ (insT (p, x) L).Pairwise fun u v => ¬ (u.1 = v.1 ∧ sameW u.2 v.2 = true) := by
  refine ⟨insT_up up fun u hu => ?_, fun u hu => ?_, ?_⟩
  · refine aheadT_total (may u hu) hm fun e => ?_
    have := hno u hu
    rw [e, wayT_self] at this
    cases this
  · rcases mem_insT.1 hu with rfl | hu
    · exact hm
    · exact may u hu
  · refine ((insT_perm (p, x) L).pairwise_iff one_symm).2 (List.pairwise_cons.2 ⟨fun u hu k => ?_, one⟩)
    have := hno u hu
    simp only at k
    rw [wayT, ← k.1, k.2] at this
    simp at this
theorem prefs_len {L L' : List Td} (h : L.Pairwise fun u v => aheadT u v = true) (h' : L'.Pairwise fun u v => aheadT u v = true) (hs : ∀ p, pathsT L p ≠ [] ↔ pathsT L' p ≠ []) : (prefsT L).length = (prefsT L').length :=
  ((List.perm_ext_iff_of_nodup (prefsT_nodup h) (prefsT_nodup h')).2 fun p => by rw [← paths_prefs, ← paths_prefs]; exact hs p).length_eq
theorem prefs_more {L L' : List Td} {p : Px} (h : L.Pairwise fun u v => aheadT u v = true) (h' : L'.Pairwise fun u v => aheadT u v = true) (hp : pathsT L p = []) (hs : ∀ q, pathsT L' q ≠ [] ↔ q = p ∨ pathsT L q ≠ []) : (prefsT L').length = (prefsT L).length + 1 := by
  have hn : (p :: prefsT L).Nodup := List.nodup_cons.2 ⟨fun k => paths_prefs.2 k hp, prefsT_nodup h⟩
  have := ((List.perm_ext_iff_of_nodup (prefsT_nodup h') hn).2 fun q => by rw [List.mem_cons, ← paths_prefs, ← paths_prefs]; exact hs q).length_eq
  simpa using this
theorem paths_ins (L : List Td) (p : Px) (x : Pa) : (pathsT (insT (p, x) L) p).Perm (x :: pathsT L p) := by
  have := pathsT_perm (insT_perm (p, x) L) p
  rw [pathsT_cons, if_pos rfl] at this
  exact this
theorem ne_of_perm {l r : List Pa} {x : Pa} (h : l.Perm (x :: r)) : l ≠ [] := fun e => by
  have := h.length_eq
  rw [e] at this
  simp at this
/-- Where the way is known, one stands there. -/
theorem any_at {l : List Pa} {x : Pa} (h : l.any (sameW x) = true) : ∃ (i : Nat) (y : Pa), l[i]? = some y ∧ sameW x y = true := by
  obtain ⟨y, hy, hw⟩ := List.any_eq_true.1 h
  obtain ⟨i, hi⟩ := List.getElem?_of_mem hy
  exact ⟨i, y, hi, hw⟩
theorem noW_no {L : List Td} {p : Px} {x : Pa} (h : L.any (wayT p x) = false) : ∀ u ∈ L, wayT p x u = false := fun u hu => by
  rw [List.any_eq_false] at h
  simpa using h u hu
theorem RowT.put {L : List Td} (h : RowT cls L) {p : Px} {x : Pa} (hp : p.ad.ok) (hx : x.ok) : RowT cls (putT cls L p x).1 := by
  unfold putT
  split
  · exact h
  · rename_i hm
    have hm : mayP cls p x = true := by simpa using hm
    split
    · rename_i hw
      obtain ⟨n1, n2, n3⟩ := h.non p x
      obtain ⟨r1, r2, r3⟩ := ins_row n1 (fun u hu => h.may u (n2 u hu)) n3 (fun u hu => (mem_noW.1 hu).2) hm
      have hw' := any_way ▸ hw
      obtain ⟨i, y, hi, hy⟩ := any_at hw'
      have hfl : ((pathsT L p).filter fun z => !sameW x z).length + 1 = (pathsT L p).length := by
        rw [filter_way (paths_one h.one p) hi hy, List.length_eraseIdx, if_pos (List.getElem?_eq_some_iff.1 hi).1]
        have := (List.getElem?_eq_some_iff.1 hi).1
        omega
      refine ⟨r1, r2, fun u hu => ?_, r3, fun q => ?_, ?_⟩
      · rcases mem_insT.1 hu with rfl | hu
        · exact ⟨hp, hx⟩
        · exact h.ok u (n2 u hu)
      · by_cases e : q = p
        · subst e
          have := (paths_ins (noW q x L) q x).length_eq
          rw [List.length_cons, paths_noW, hfl] at this
          have h4 := h.four q
          exact this ▸ h4
        · have e1 : pathsT (insT (p, x) (noW p x L)) q = pathsT L q := by rw [pathsT_ins_ne (fun k => e k.symm), paths_noW_ne e]
          have h4 := h.four q
          exact e1 ▸ h4
      · have := prefs_len r1 h.up fun q => by
          by_cases e : q = p
          · subst e
            refine ⟨fun _ k => ?_, fun _ => ne_of_perm (paths_ins _ _ _)⟩
            rw [k] at hi
            simp at hi
          · rw [pathsT_ins_ne (fun k => e k.symm), paths_noW_ne e]
        have hmany := h.many
        exact this ▸ hmany
    · rename_i hw
      have hw : L.any (wayT p x) = false := by simpa using hw
      split
      · exact h
      · rename_i hfull
        obtain ⟨r1, r2, r3⟩ := ins_row h.up h.may h.one (noW_no hw) hm
        refine ⟨r1, r2, fun u hu => ?_, r3, fun q => ?_, ?_⟩
        · rcases mem_insT.1 hu with rfl | hu
          · exact ⟨hp, hx⟩
          · exact h.ok u hu
        · by_cases e : q = p
          · subst e
            have := (paths_ins L q x).length_eq
            rw [List.length_cons] at this
            change (pathsT (insT (q, x) L) q).length ≤ 4
            omega
          · have h4 := h.four q
            rw [pathsT_ins_ne (fun k => e k.symm)]
            exact h4
        · by_cases e : pathsT L p = []
          · have := prefs_more h.up r1 e fun q => by
              by_cases k : q = p
              · subst k
                exact ⟨fun _ => .inl rfl, fun _ => ne_of_perm (paths_ins _ _ _)⟩
              · rw [pathsT_ins_ne (fun k' => k k'.symm)]
                exact ⟨.inr, fun h => h.resolve_left k⟩
            have : ¬ 90 ≤ (prefsT L).length := fun k => hfull (.inr ⟨e, k⟩)
            change (prefsT (insT (p, x) L)).length ≤ 90
            omega
          · have := prefs_len r1 h.up fun q => by
              by_cases k : q = p
              · subst k
                exact ⟨fun _ => e, fun _ => ne_of_perm (paths_ins _ _ _)⟩
              · rw [pathsT_ins_ne (fun k' => k k'.symm)]
            have hmany := h.many
            exact this ▸ hmany
theorem RowT.drop' {L : List Td} (h : RowT cls L) (f : Td → Bool) : RowT cls (L.filter f) := by
  refine ⟨h.up.filter _, fun u hu => h.may u (List.mem_filter.1 hu).1, fun u hu => h.ok u (List.mem_filter.1 hu).1, h.one.filter _, fun q => ?_, ?_⟩
  · rw [pathsT_filter]
    exact Nat.le_trans (List.length_filter_le _ _) (h.four q)
  · have hn := prefsT_nodup (h.up.filter f)
    have hsub : (prefsT (L.filter f)).Perm ((prefsT L).filter fun p => decide (p ∈ prefsT (L.filter f))) := by
      refine (List.perm_ext_iff_of_nodup hn ((prefsT_nodup h.up).filter _)).2 fun p => ?_
      rw [List.mem_filter, decide_eq_true_eq]
      refine ⟨fun hp => ⟨?_, hp⟩, fun hp => hp.2⟩
      obtain ⟨x, hx⟩ := mem_prefsT.1 hp
      exact mem_prefsT.2 ⟨x, (List.mem_filter.1 hx).1⟩
    exact Nat.le_trans (hsub.length_eq ▸ List.length_filter_le _ _) h.many
theorem RowT.drop {L : List Td} (h : RowT cls L) (p : Px) (x : Pa) : RowT cls (dropT L p x).1 := by
  unfold dropT
  split
  · exact h.drop' _
  · exact h
theorem RowT.flush {L : List Td} (h : RowT cls L) (q : Int) : RowT cls (flushT L q) := h.drop' _
theorem RowT.nil : RowT cls [] := ⟨.nil, by simp, by simp, .nil, by simp [pathsT], by simp [prefsT]⟩
/-! the paths of one prefix, behind a step -/
theorem put_ne {L : List Td} {p q : Px} (x : Pa) (h : q ≠ p) : pathsT (putT cls L p x).1 q = pathsT L q := by
  unfold putT
  split
  · rfl
  · split
    · exact (pathsT_ins_ne (fun k => h k.symm) _).trans (paths_noW_ne h L x)
    · split
      · rfl
      · exact pathsT_ins_ne (fun k => h k.symm) _
theorem put_old {L : List Td} (h : RowT cls L) {p : Px} {x : Pa} (hp : p.ad.ok) (hx : x.ok) (hm : mayP cls p x = true) {i : Nat} {y : Pa} (hi : (pathsT L p)[i]? = some y) (hw : sameW x y = true) {d : List Pa}
    (hd : d.Perm ((pathsT L p).set i x)) (hs : d.Pairwise fun a b => betP b a = false) : d = pathsT (putT cls L p x).1 p ∧ (putT cls L p x).2 = 0 := by
  have hr := (h.put hp hx (p := p) (x := x)).up
  have hany : L.any (wayT p x) = true := by
    rw [any_way, List.any_eq_true]
    exact ⟨y, List.mem_of_getElem? hi, hw⟩
  have e : putT cls L p x = (insT (p, x) (noW p x L), 0) := by
    unfold putT
    rw [if_neg (by simp [hm]), if_pos hany]
    rfl
  rw [e] at hr ⊢
  refine ⟨sorted_same (hd.trans ?_) hs (pathsT_up hr p), rfl⟩
  refine List.Perm.trans ?_ (paths_ins _ _ _).symm
  rw [paths_noW, filter_way (paths_one h.one p) hi hw]
  have hlt := (List.getElem?_eq_some_iff.1 hi).1
  have : ∀ (l : List Pa) (i : Nat), i < l.length → (l.set i x).Perm (x :: l.eraseIdx i) := by
    intro l
    induction l with
    | nil => intro i hi; simp at hi
    | cons a r ih =>
      intro i hi
      cases i with
      | zero => simp
      | succ i =>
        simp only [List.set_cons_succ, List.eraseIdx_cons_succ]
        exact ((ih i (by simpa using hi)).cons a).trans (List.Perm.swap _ _ _)
  exact this _ _ hlt
theorem put_new {L : List Td} (h : RowT cls L) {p : Px} {x : Pa} (hp : p.ad.ok) (hx : x.ok) (hm : mayP cls p x = true) (hw : (pathsT L p).any (sameW x) = false) (hroom : ¬ (4 ≤ (pathsT L p).length ∨ (pathsT L p = [] ∧ 90 ≤ (prefsT L).length))) {d : List Pa}
    (hd : d.Perm (pathsT L p ++ [x])) (hs : d.Pairwise fun a b => betP b a = false) : d = pathsT (putT cls L p x).1 p ∧ (putT cls L p x).2 = 0 := by
  have hr := (h.put hp hx (p := p) (x := x)).up
  have e : putT cls L p x = (insT (p, x) L, 0) := by
    unfold putT
    rw [if_neg (by simp [hm]), if_neg (by rw [any_way, hw]; simp), if_neg hroom]
  rw [e] at hr ⊢
  refine ⟨sorted_same (hd.trans ?_) hs (pathsT_up hr p), rfl⟩
  exact (List.perm_append_comm.trans (List.Perm.refl _)).trans (paths_ins _ _ _).symm
theorem put_bad {L : List Td} {p : Px} {x : Pa} (hm : mayP cls p x = false) : putT cls L p x = (L, 140) := by
  unfold putT
  rw [if_pos hm]
theorem put_full {L : List Td} {p : Px} {x : Pa} (hm : mayP cls p x = true) (hw : (pathsT L p).any (sameW x) = false) (hf : 4 ≤ (pathsT L p).length ∨ (pathsT L p = [] ∧ 90 ≤ (prefsT L).length)) : putT cls L p x = (L, 141) := by
  unfold putT
  rw [if_neg (by simp [hm]), if_neg (by rw [any_way, hw]; simp), if_pos hf]
theorem drop_no {L : List Td} {p : Px} {x : Pa} (hw : (pathsT L p).any (sameW x) = false) : dropT L p x = (L, 142) := by
  unfold dropT
  rw [if_neg (by rw [any_way, hw]; simp)]
theorem drop_at_ {L : List Td} (h : RowT cls L) {p : Px} {x : Pa} {i : Nat} {y : Pa} (hi : (pathsT L p)[i]? = some y) (hw : sameW x y = true) : dropT L p x = (noW p x L, 0) ∧ pathsT (noW p x L) p = (pathsT L p).eraseIdx i := by
  refine ⟨?_, ?_⟩
  · unfold dropT
    rw [if_pos]
    · rfl
    · rw [any_way, List.any_eq_true]
      exact ⟨y, List.mem_of_getElem? hi, hw⟩
  · rw [paths_noW, filter_way (paths_one h.one p) hi hw]
theorem flush_paths (L : List Td) (proto : Int) (q : Px) : pathsT (flushT L proto) q = (pathsT L q).filter fun x => decide (x.proto ≠ proto) := by
  unfold flushT
  rw [pathsT_filter]
/-! how many -/
theorem sum_zero : ∀ ks : List Px, (ks.map fun _ => 0).sum = 0
  | [] => rfl
  | a :: r => by rw [List.map_cons, List.sum_cons, sum_zero r]
theorem sum_paths : ∀ (L : List Td) {ks : List Px}, ks.Nodup → (∀ u ∈ L, u.1 ∈ ks) → (ks.map fun p => (pathsT L p).length).sum = L.length
  | [], ks, _, _ => by
    simp only [pathsT_nil, List.length_nil]
    exact sum_zero ks
  | u :: L, ks, hn, hc => by
    have ih := sum_paths L hn fun v hv => hc v (List.mem_cons_of_mem _ hv)
    have key : ∀ ks : List Px, ks.Nodup → (ks.map fun p => (pathsT (u :: L) p).length).sum = (ks.map fun p => (pathsT L p).length).sum + if u.1 ∈ ks then 1 else 0 := by
      intro ks
      induction ks with
      | nil => intro _; rfl
      | cons a r ihr =>
        intro hn
        obtain ⟨h1, h2⟩ := List.nodup_cons.1 hn
        have := ihr h2
        rw [List.map_cons, List.sum_cons, List.map_cons, List.sum_cons, this, pathsT_cons]
        simp only [List.mem_cons]
        by_cases e : u.1 = a
        · have hr : u.1 ∉ r := by rw [e]; exact h1
          rw [if_pos e, if_neg hr, if_pos (.inl e), List.length_cons]
          omega
        · rw [if_neg e]
          by_cases hr : u.1 ∈ r
          · rw [if_pos hr, if_pos (.inr hr)]
            omega
          · rw [if_neg hr, if_neg (fun k => k.elim e hr)]
            omega
    rw [key ks hn, ih, if_pos (hc u List.mem_cons_self)]
    rfl
end Go.Proofs.YtnklbeigikcfkaaGreatDoor
