/- Maps whose entries are known, in the order in which they came in, over any kind of key and of element. -/
import Derived.Test.YtnklbeigikcfkaaGreatDoorBase
import Derived.Maps.RangeWalk
import Derived.MapFrom
import Derived.Carry
namespace Go.Proofs.YtnklbeigikcfkaaGreatDoor
open Go.RowKit Go.ChangeShapes Go.WideShapes
open Go.ChangeMaps Go.MapKept
open Go.Maps (Keyed)

/-- Block b is a map; its entries are l, in the order in which they came in. -/
def MapIs {α β : Type} (P : Program) (k : TypeId) (kf : α → Value) (vf : β → Value) (w : World) (b : Nat) (l : List (α × β)) : Prop :=
  ∃ es clock, w.heap[b]? = some (.map es clock) ∧ Stamped es clock ∧ (∀ p ∈ l, ∃ y, keyOf P k (kf p.1) = some y) ∧ es.toList.map (fun e => (e.key, e.val)) = l.map (fun p => (kf p.1, vf p.2))

/-- Block r is an iterator over the map in block b (which stands since); rest are the entries to come. -/
def IterIs {α β : Type} (P : Program) (k : TypeId) (kf : α → Value) (vf : β → Value) (w : World) (r b : Nat) (l rest : List (α × β)) : Prop :=
  ∃ es clock since seen c0, w.heap[b]? = some (.map es clock) ∧ Stamped es clock ∧ (∀ p ∈ l, ∃ y, keyOf P k (kf p.1) = some y) ∧ es.toList.map (fun e => (e.key, e.val)) = l.map (fun p => (kf p.1, vf p.2)) ∧
    w.heap[r]? = some (.mapIter (some b) since seen c0) ∧ (∀ x ∈ es.toList, x.born < since) ∧ since ≤ c0 ∧ since ≤ clock ∧
    ((es.toList.filter fun e => !seen.contains e.born).map (fun e => (e.key, e.val))) = rest.map (fun p => (kf p.1, vf p.2)) ∧ rest.Sublist l

section
variable {α β : Type} {P : Program} {k : TypeId} {kf : α → Value} {vf : β → Value} {w w' : World} {b : Nat} {l : List (α × β)} {S : Nat → Prop}

theorem MapIs.new (w : World) (P : Program) (k : TypeId) (kf : α → Value) (vf : β → Value) : MapIs P k kf vf (w.alloc (.map #[] 0)) w.heap.size [] :=
  ⟨#[], 0, heap_alloc_new w _, stamped_empty 0, by simp, by simp⟩
theorem MapIs.lt (h : MapIs P k kf vf w b l) : b < w.heap.size := by
  obtain ⟨es, clock, hb, _⟩ := h
  exact (Array.getElem?_eq_some_iff.1 hb).1
theorem MapIs.of_block (h : MapIs P k kf vf w b l) (e : w'.heap[b]? = w.heap[b]?) : MapIs P k kf vf w' b l := by
  obtain ⟨es, clock, hb, r⟩ := h
  exact ⟨es, clock, e.trans hb, r⟩
theorem MapIs.fr (h : MapIs P k kf vf w b l) (hf : Fr S w w') (hn : ¬ S b) : MapIs P k kf vf w' b l := h.of_block (hf.block b h.lt hn)
theorem MapIs.alloc (h : MapIs P k kf vf w b l) (o : Obj) : MapIs P k kf vf (w.alloc o) b l := h.of_block (Below.heap_alloc w o b h.lt)
theorem MapIs.drewN (h : MapIs P k kf vf w b l) (n : Nat) : MapIs P k kf vf (w.drewN n) b l := h
theorem MapIs.ne_blk {g : Nat} {t : TypeId} {cs : Array Value} (h : MapIs P k kf vf w b l) (hb : Blk w g t cs) : b ≠ g := by
  rintro rfl
  obtain ⟨es, clock, hh, _⟩ := h
  unfold Blk at hb
  rw [hh] at hb
  cases hb
theorem MapIs.far (h : MapIs P k kf vf w b l) {p : Addr} (hp : b ≠ p.block) (u : Value) : MapIs P k kf vf (w.setCell p u) b l := h.of_block (Below.heap_setCell w p u b hp)
theorem MapIs.key (h : MapIs P k kf vf w b l) : ∀ p ∈ l, ∃ y, keyOf P k (kf p.1) = some y := by
  obtain ⟨es, clock, hb, hs, hk, _⟩ := h
  exact hk
theorem keys_of {es : Array MapEntry} (hk : ∀ p ∈ l, ∃ y, keyOf P k (kf p.1) = some y) (he : es.toList.map (fun e => (e.key, e.val)) = l.map (fun p => (kf p.1, vf p.2))) : ∀ e ∈ es.toList, ∃ y, keyOf P k e.key = some y := by
  intro e hm
  have : (e.key, e.val) ∈ l.map (fun p => (kf p.1, vf p.2)) := he ▸ List.mem_map.2 ⟨e, hm, rfl⟩
  obtain ⟨p, hp, hpe⟩ := List.mem_map.1 this
  injection hpe with h1 h2
  rw [← h1]
  exact hk p hp
theorem ent_at {es : Array MapEntry} (he : es.toList.map (fun e => (e.key, e.val)) = l.map (fun p => (kf p.1, vf p.2))) (i : Nat) (e : MapEntry) (hi : es.toList[i]? = some e) : ∃ p, l[i]? = some p ∧ e.key = kf p.1 ∧ e.val = vf p.2 := by
  have h := congrArg (fun x => x[i]?) he
  simp only [List.getElem?_map, hi, Option.map_some] at h
  cases hl : l[i]? with
  | none => rw [hl] at h; cases h
  | some p =>
    rw [hl] at h
    simp only [Option.map_some, Option.some.injEq, Prod.mk.injEq] at h
    exact ⟨p, rfl, h.1, h.2⟩
theorem ent_of {es : Array MapEntry} (he : es.toList.map (fun e => (e.key, e.val)) = l.map (fun p => (kf p.1, vf p.2))) (i : Nat) (p : α × β) (hi : l[i]? = some p) : ∃ e, es.toList[i]? = some e ∧ e.key = kf p.1 ∧ e.val = vf p.2 := by
  have h := congrArg (fun x => x[i]?) he
  simp only [List.getElem?_map, hi, Option.map_some] at h
  cases hl : es.toList[i]? with
  | none => rw [hl] at h; cases h
  | some e =>
    rw [hl] at h
    simp only [Option.map_some, Option.some.injEq, Prod.mk.injEq] at h
    exact ⟨e, rfl, h.1, h.2⟩
theorem pair_ne {l : List MapEntry} (h : l.Pairwise fun x y => x.key ≠ y.key) {i j : Nat} {x y : MapEntry} (hi : l[i]? = some x) (hj : l[j]? = some y) (e : x.key = y.key) : i = j := by
  rw [List.pairwise_iff_getElem] at h
  obtain ⟨h1, rfl⟩ := List.getElem?_eq_some_iff.1 hi
  obtain ⟨h2, rfl⟩ := List.getElem?_eq_some_iff.1 hj
  rcases Nat.lt_trichotomy i j with hlt | rfl | hlt
  · exact absurd e (h i j h1 h2 hlt)
  · rfl
  · exact absurd e.symm (h j i h2 h1 hlt)
theorem stamped_ne {es : Array MapEntry} {clock : Nat} (h : Stamped es clock) : es.toList.Pairwise (fun x y => x.key ≠ y.key) := ((stamped_iff es clock).1 h).2.2

theorem MapIs.find_some (h : MapIs P k kf vf w b l) (K : Keyed P k) {i : Nat} {a : α} {v : β} (hi : l[i]? = some (a, v)) :
    ∃ es clock, w.heap[b]? = some (.map es clock) ∧ (Instr.findKey k (kf a) es.toList).run P w = .ok (some (i, vf v)) w := by
  obtain ⟨es, clock, hb, hs, hk, he⟩ := h
  refine ⟨es, clock, hb, ?_⟩
  obtain ⟨y, hy⟩ := hk (a, v) (List.mem_of_getElem? hi)
  obtain ⟨e, hei, hek, hev⟩ := ent_of he i _ hi
  rcases K.find w hy es.toList (keys_of hk he) with ⟨_, h2⟩ | ⟨j, e0, h1, h2, h3⟩
  · exact absurd hek (h2 e (List.mem_of_getElem? hei))
  · have : i = j := pair_ne (stamped_ne hs) hei h2 (hek.trans h3.symm)
    subst this
    rw [hei] at h2
    cases h2
    rw [h1, hev]
theorem MapIs.find_none (h : MapIs P k kf vf w b l) (K : Keyed P k) {a : α} {y : Lit} (hy : keyOf P k (kf a) = some y) (hn : ∀ p ∈ l, kf p.1 ≠ kf a) :
    ∃ es clock, w.heap[b]? = some (.map es clock) ∧ (Instr.findKey k (kf a) es.toList).run P w = .ok none w ∧ ∀ e ∈ es.toList, e.key ≠ kf a := by
  obtain ⟨es, clock, hb, hs, hk, he⟩ := h
  refine ⟨es, clock, hb, ?_⟩
  have hne : ∀ e ∈ es.toList, e.key ≠ kf a := by
    intro e hm
    obtain ⟨i, hi⟩ := List.getElem?_of_mem hm
    obtain ⟨p, hp, hk1, _⟩ := ent_at he i e hi
    rw [hk1]
    exact hn p (List.mem_of_getElem? hp)
  rcases K.find w hy es.toList (keys_of hk he) with ⟨h1, h2⟩ | ⟨j, e0, h1, h2, h3⟩
  · exact ⟨h1, h2⟩
  · exact absurd h3 (hne e0 (List.mem_of_getElem? h2))

/-- 'm[k]' and 'v, ok := m[k]'. -/
theorem MapIs.look_some (h : MapIs P k kf vf w b l) (K : Keyed P k) {t e : TypeId} (ht : P.underlying t = some (.map k e)) (c : Bool) {i : Nat} {a : α} {v : β} (hi : l[i]? = some (a, v)) :
    (Instr.lookup t (.map (some b)) (kf a) c).run P w = .ok (if c then .tuple #[vf v, .bool true] else vf v) w := by
  obtain ⟨y, hy⟩ := h.key (a, v) (List.mem_of_getElem? hi)
  obtain ⟨es, clock, hb, hf⟩ := h.find_some K hi
  simp [Instr.lookup, run_underlying ht, MapKept.run_getObj_map hb, K.check w _ hy, hf, Result.andThen]
theorem MapIs.look_none (h : MapIs P k kf vf w b l) (K : Keyed P k) {t e : TypeId} (ht : P.underlying t = some (.map k e)) (c : Bool) {z : Value} (hz : (zeroValue e).run P w = .ok z w) {a : α} {y : Lit} (hy : keyOf P k (kf a) = some y) (hn : ∀ p ∈ l, kf p.1 ≠ kf a) :
    (Instr.lookup t (.map (some b)) (kf a) c).run P w = .ok (if c then .tuple #[z, .bool false] else z) w := by
  obtain ⟨es, clock, hb, hf, _⟩ := h.find_none K hy hn
  simp [Instr.lookup, run_underlying ht, MapKept.run_getObj_map hb, K.check w _ hy, hf, hz, Result.andThen]
theorem setBlock_fr (w : World) (b : Nat) (o : Obj) : Fr (fun i => i = b) w (setBlock w b o) := by
  refine ⟨rfl, rfl, rfl, by simp [setBlock], fun i _ hi => ?_⟩
  simp only [setBlock]
  rw [Array.getElem?_setIfInBounds]
  split
  · rename_i h; exact absurd h.symm hi
  · rfl
/-- 'm[k] = v' at a new key. -/
theorem MapIs.store_new (h : MapIs P k kf vf w b l) (K : Keyed P k) {t e : TypeId} (ht : P.underlying t = some (.map k e)) {a : α} {y : Lit} (v : β) (hy : keyOf P k (kf a) = some y) (hn : ∀ p ∈ l, kf p.1 ≠ kf a) :
    ∃ w', (Instr.mapUpdate t (.map (some b)) (kf a) (vf v)).run P w = .ok () w' ∧ MapIs P k kf vf w' b (l ++ [(a, v)]) ∧ Fr (fun i => i = b) w w' ∧ w'.heap.size = w.heap.size := by
  have h0 := h
  obtain ⟨es, clock, hb, hs, hk, he⟩ := h
  obtain ⟨es', clock', hb', hf, hne⟩ := h0.find_none K hy hn
  rw [hb] at hb'
  cases hb'
  refine ⟨setBlock w b (.map (es.push ⟨kf a, vf v, clock⟩) (clock + 1)), ?_, ⟨_, _, heap_setBlock_same hb _, stamped_push hs hne, ?_, ?_⟩, setBlock_fr w b _, by simp [setBlock]⟩
  · simp [Instr.mapUpdate, run_underlying ht, MapKept.run_getObj_map hb, K.check w false hy, hf, MapKept.run_setObj_map _ hb, Result.andThen, setBlock]
  · intro p hp
    rcases List.mem_append.1 hp with hp | hp
    · exact hk p hp
    · rw [List.mem_singleton] at hp
      subst hp
      exact ⟨y, hy⟩
  · simp [he]
/-- 'm[k] = v' at a key that is there. -/
theorem MapIs.store_old (h : MapIs P k kf vf w b l) (K : Keyed P k) {t e : TypeId} (ht : P.underlying t = some (.map k e)) {i : Nat} {a : α} {u : β} (v : β) (hi : l[i]? = some (a, u)) :
    ∃ w', (Instr.mapUpdate t (.map (some b)) (kf a) (vf v)).run P w = .ok () w' ∧ MapIs P k kf vf w' b (l.set i (a, v)) ∧ Fr (fun i => i = b) w w' ∧ w'.heap.size = w.heap.size := by
  have h0 := h
  obtain ⟨y, hy⟩ := h.key (a, u) (List.mem_of_getElem? hi)
  obtain ⟨es, clock, hb, hs, hk, he⟩ := h
  obtain ⟨es', clock', hb', hf⟩ := h0.find_some K hi
  rw [hb] at hb'
  cases hb'
  obtain ⟨e0, hei, hek, hev⟩ := ent_of he i _ hi
  have hj : es[i]? = some e0 := by simpa using hei
  have hkeyf : ∀ e', es[i]? = some e' → ({ e' with key := kf a, val := vf v } : MapEntry).key = e'.key := fun e' he' => by rw [hj] at he'; cases he'; exact hek.symm
  have hlist : (es.modify i (fun e' => { e' with key := kf a, val := vf v })).toList = es.toList.set i { e0 with key := kf a, val := vf v } := by rw [Array.toList_modify, modify_eq_set _ _ _ _ hei]
  refine ⟨setBlock w b (.map (es.modify i (fun e' => { e' with key := kf a, val := vf v })) clock), ?_, ⟨_, _, heap_setBlock_same hb _, stamped_modify hs _ _ (fun _ _ => rfl) (fun e' _ he' => hkeyf e' he'), ?_, ?_⟩, setBlock_fr w b _, by simp [setBlock]⟩
  · simp [Instr.mapUpdate, run_underlying ht, MapKept.run_getObj_map hb, K.check w false hy, hf, hj, hek, K.stays w hy, MapKept.run_setObj_map _ hb, Result.andThen, setBlock]
  · intro p hp
    rcases List.mem_or_eq_of_mem_set hp with hp | rfl
    · exact hk p hp
    · exact ⟨y, hy⟩
  · rw [hlist, List.map_set, he, List.map_set]
/-- 'delete(m, k)' of a key that is there. -/
theorem MapIs.drop_some (h : MapIs P k kf vf w b l) (K : Keyed P k) {t e ty : TypeId} (ht : P.underlying t = some (.map k e)) {i : Nat} {a : α} {u : β} (hi : l[i]? = some (a, u)) :
    ∃ w', (Builtin.delete_ #[t, k] ty #[.map (some b), kf a]).run P w = .ok (.tuple #[]) w' ∧ MapIs P k kf vf w' b (l.eraseIdx i) ∧ Fr (fun i => i = b) w w' ∧ w'.heap.size = w.heap.size := by
  have h0 := h
  obtain ⟨y, hy⟩ := h.key (a, u) (List.mem_of_getElem? hi)
  obtain ⟨es, clock, hb, hs, hk, he⟩ := h
  obtain ⟨es', clock', hb', hf⟩ := h0.find_some K hi
  rw [hb] at hb'
  cases hb'
  obtain ⟨e0, hei, hek, hev⟩ := ent_of he i _ hi
  have hjs : i < es.size := by simpa using (List.getElem?_eq_some_iff.1 hei).1
  have hsub : (es.eraseIdxIfInBounds i).toList = es.toList.eraseIdx i := by
    unfold Array.eraseIdxIfInBounds
    rw [dif_pos hjs]
    simp
  refine ⟨setBlock w b (.map (es.eraseIdxIfInBounds i) clock), ?_, ⟨_, _, heap_setBlock_same hb _, stamped_erase hs i, ?_, ?_⟩, setBlock_fr w b _, by simp [setBlock]⟩
  · simp [Builtin.delete_, run_underlying ht, MapKept.run_getObj_map hb, K.check w _ hy, hf, MapKept.run_setObj_map _ hb, Result.andThen, setBlock]
  · exact fun p hp => hk p ((List.eraseIdx_sublist _ _).subset hp)
  · rw [hsub, map_eraseIdx, he, map_eraseIdx]
/-- 'len(m)'. -/
theorem MapIs.len (h : MapIs P k kf vf w b l) {t e : TypeId} (ht : P.underlying t = some (.map k e)) (ty : TypeId) : (Builtin.len_ #[t] ty #[.map (some b)]).run P w = .ok (.int .i64 (l.length : Int)) w := by
  obtain ⟨es, clock, hb, _, _, he⟩ := h
  have e1 : es.size = l.length := by have := congrArg List.length he; simpa using this
  rw [← e1]
  simp [Builtin.len_, run_underlying ht, MapKept.run_getObj_map hb, goInt, Result.andThen]

/-- The keys are all different. -/
theorem MapIs.apart (h : MapIs P k kf vf w b l) : l.Pairwise fun p q => p.1 ≠ q.1 := by
  obtain ⟨es, clock, hb, hs, hk, he⟩ := h
  rw [List.pairwise_iff_getElem]
  intro i j hi hj hij e
  obtain ⟨x, hx, hxk, _⟩ := ent_of he i _ (List.getElem?_eq_getElem hi)
  obtain ⟨y, hy, hyk, _⟩ := ent_of he j _ (List.getElem?_eq_getElem hj)
  have := pair_ne (stamped_ne hs) hx hy (by rw [hxk, hyk, e])
  omega
end

/-- In a list without two of one key, to strike the place of a key is to strike the key. -/
theorem erase_filter {α β : Type} [DecidableEq α] : ∀ {l : List (α × β)}, l.Pairwise (fun p q => p.1 ≠ q.1) → ∀ {i : Nat} {a : α} {u : β}, l[i]? = some (a, u) → l.eraseIdx i = l.filter fun p => decide (p.1 ≠ a)
  | [], _, i, a, u, h => by simp at h
  | x :: r, hp, 0, a, u, h => by
    simp at h
    subst h
    obtain ⟨h1, h2⟩ := List.pairwise_cons.1 hp
    simp only [List.eraseIdx_cons_zero, List.filter_cons, ne_eq, not_true_eq_false, decide_false]
    simp only [Bool.false_eq_true, if_false]
    refine (List.filter_eq_self.2 fun p hp => ?_).symm
    simpa using fun e => h1 p hp e.symm
  | x :: r, hp, i + 1, a, u, h => by
    obtain ⟨h1, h2⟩ := List.pairwise_cons.1 hp
    simp only [List.getElem?_cons_succ] at h
    have hx : x.1 ≠ a := h1 _ (List.mem_of_getElem? h)
    simp only [List.eraseIdx_cons_succ, List.filter_cons, ne_eq, hx, not_false_eq_true, decide_true, if_true]
    rw [erase_filter h2 h]

/-! ### ranges -/
section
variable {α β : Type} {P : Program} {k : TypeId} {kf : α → Value} {vf : β → Value} {w w' : World} {r b : Nat} {l rest : List (α × β)} {S : Nat → Prop}
theorem IterIs.map (h : IterIs P k kf vf w r b l rest) : MapIs P k kf vf w b l := by
  obtain ⟨es, clock, since, seen, c0, hb, hs, hk, he, _⟩ := h
  exact ⟨es, clock, hb, hs, hk, he⟩
theorem IterIs.sub (h : IterIs P k kf vf w r b l rest) : rest.Sublist l := by
  obtain ⟨es, clock, since, seen, c0, hb, hs, hk, he, hr, _, _, _, _, hsub⟩ := h
  exact hsub
theorem IterIs.lt (h : IterIs P k kf vf w r b l rest) : r < w.heap.size := by
  obtain ⟨es, clock, since, seen, c0, hb, hs, hk, he, hr, _⟩ := h
  exact (Array.getElem?_eq_some_iff.1 hr).1
theorem IterIs.ne (h : IterIs P k kf vf w r b l rest) : r ≠ b := by
  obtain ⟨es, clock, since, seen, c0, hb, hs, hk, he, hr, _⟩ := h
  rintro rfl
  rw [hb] at hr
  cases hr
theorem IterIs.fr (h : IterIs P k kf vf w r b l rest) (hf : Fr S w w') (hn : ¬ S b) (hr : ¬ S r) : IterIs P k kf vf w' r b l rest := by
  have h1 := h.map.lt
  have h2 := h.lt
  obtain ⟨es, clock, since, seen, c0, hb, hs, hk, he, hi, q⟩ := h
  exact ⟨es, clock, since, seen, c0, (hf.block b h1 hn).trans hb, hs, hk, he, (hf.block r h2 hr).trans hi, q⟩
/-- 'range m'. -/
theorem MapIs.range (h : MapIs P k kf vf w b l) {t e : TypeId} (ht : P.underlying t = some (.map k e)) :
    ∃ w', (Instr.range t (.map (some b))).run P w = .ok (.pointer (some ⟨w.heap.size, 0, none⟩)) w' ∧ IterIs P k kf vf w' w.heap.size b l l ∧ Fr S w w' ∧ w'.heap.size = w.heap.size + 1 := by
  have hlt := h.lt
  obtain ⟨es, clock, hb, hs, hk, he⟩ := h
  refine ⟨_, run_range_map w t k e b es clock ht hb, ⟨es, clock, clock, #[], clock, ((MapKept.heap_alloc w _).2 b hlt).trans hb, hs, hk, he, (MapKept.heap_alloc w _).1, ((stamped_iff es clock).1 hs).1, Nat.le_refl _, Nat.le_refl _, ?_, List.Sublist.refl _⟩, (Fr.refl S w).alloc _, by simp⟩
  rw [← he, List.filter_eq_self.2 (by simp)]
theorem filter_erase {es : Array MapEntry} {clock : Nat} (hs : Stamped es clock) (seen : Array Nat) (e : MapEntry) (he : e ∈ es.toList) (i : Nat)
    (hi : (es.toList.filter fun x => !seen.contains x.born)[i]? = some e) :
    (es.toList.filter fun x => !(seen.push e.born).contains x.born) = (es.toList.filter fun x => !seen.contains x.born).eraseIdx i := by
  have hnd : (es.toList.filter fun x => !seen.contains x.born).Pairwise fun x y => x.born ≠ y.born := by
    have := ((stamped_iff es clock).1 hs).2.1
    rw [List.Nodup, List.pairwise_map] at this
    exact this.filter _
  have e1 : (es.toList.filter fun x => !(seen.push e.born).contains x.born) = (es.toList.filter fun x => !seen.contains x.born).filter fun x => !(x.born == e.born) := by
    rw [List.filter_filter]
    refine List.filter_congr fun x _ => ?_
    rw [contains_push]
    cases seen.contains x.born <;> cases (x.born == e.born) <;> rfl
  rw [e1]
  generalize (es.toList.filter fun x => !seen.contains x.born) = L at hi hnd
  clear e1
  induction L generalizing i with
  | nil => simp at hi
  | cons y r ih =>
    obtain ⟨h1, h2⟩ := List.pairwise_cons.1 hnd
    cases i with
    | zero =>
      simp at hi
      subst hi
      simp only [List.filter_cons, beq_self_eq_true, Bool.not_true, Bool.false_eq_true, if_false, List.eraseIdx_cons_zero]
      exact List.filter_eq_self.2 fun x hx => by simpa using fun e => h1 x hx e.symm
    | succ i =>
      simp only [List.getElem?_cons_succ] at hi
      have hx : y.born ≠ e.born := h1 _ (List.mem_of_getElem? hi)
      have hx' : (y.born == e.born) = false := by simpa using hx
      simp only [List.filter_cons, hx', Bool.not_false, if_true, List.eraseIdx_cons_succ]
      rw [ih i hi h2]
/-- THE STEP. -/
theorem IterIs.next (h : IterIs P k kf vf w r b l rest) (ty : TypeId) :
    (rest = [] ∧ (Instr.next (.pointer (some ⟨r, 0, none⟩)) false ty).run P w = .ok (.tuple #[.bool false]) w) ∨
    ∃ i a v w', rest[i]? = some (a, v) ∧ (Instr.next (.pointer (some ⟨r, 0, none⟩)) false ty).run P w = .ok (.tuple #[.bool true, kf a, vf v]) w' ∧
      IterIs P k kf vf w' r b l (rest.eraseIdx i) ∧ Fr (fun j => j = r) w w' ∧ w'.heap.size = w.heap.size ∧ (Instr.entry (.pointer (some ⟨r, 0, none⟩))).run P w' = .ok (.tuple #[kf a, vf v]) w' := by
  have hne := h.ne
  obtain ⟨es, clock, since, seen, c0, hb, hs, hk, he, hr, hold, hsc, hsk, hrest, hsub⟩ := h
  have hleft : (leftOf es seen).toList = es.toList.filter fun e => !seen.contains e.born := by unfold leftOf; simp
  rcases run_next_at (P := P) w ty r b since c0 seen es clock hr hb hold hsc with ⟨h0, hrun⟩ | ⟨e, hel, w1, hal, hrun⟩
  · left
    refine ⟨?_, hrun⟩
    have : (es.toList.filter fun e => !seen.contains e.born) = [] := by
      rw [← hleft]
      exact List.eq_nil_of_length_eq_zero (by simpa using h0)
    rw [this] at hrest
    exact List.map_eq_nil_iff.1 hrest.symm
  · right
    have hel0 := hel
    rw [hleft] at hel
    obtain ⟨i, hi⟩ := List.getElem?_of_mem hel
    have hem : e ∈ es.toList := (List.mem_filter.1 hel).1
    have hp : ∃ p, rest[i]? = some p ∧ e.key = kf p.1 ∧ e.val = vf p.2 := by
      have h := congrArg (fun x => x[i]?) hrest
      simp only [List.getElem?_map, hi, Option.map_some] at h
      cases hl : rest[i]? with
      | none => rw [hl] at h; cases h
      | some p =>
        rw [hl] at h
        simp only [Option.map_some, Option.some.injEq, Prod.mk.injEq] at h
        exact ⟨p, rfl, h.1, h.2⟩
    obtain ⟨⟨a, v⟩, hpi, hka, hva⟩ := hp
    have hr1 : w1.heap[r]? = some (.mapIter (some b) since seen c0) := by rcases hal with rfl | rfl <;> exact hr
    have hb1 : w1.heap[b]? = some (.map es clock) := by rcases hal with rfl | rfl <;> exact hb
    have hset := heap_set (o' := .mapIter (some b) since (seen.push e.born) clock) hr1
    have hb' : (setBlock w1 r (.mapIter (some b) since (seen.push e.born) clock)).heap[b]? = some (.map es clock) := (hset.2 b (fun e1 => hne e1.symm)).trans hb1
    have hen := run_entry_at (P := P) _ r b since seen es clock e hset.1 hb' hem ((stamped_iff es clock).1 hs).2.1
    simp only at hka hva
    rw [hka, hva] at hrun hen
    refine ⟨i, a, v, _, hpi, hrun, ⟨es, clock, since, seen.push e.born, clock, hb', hs, hk, he, hset.1, hold, hsk, hsk, ?_, (List.eraseIdx_sublist _ _).trans hsub⟩, ?_, ?_, hen⟩
    · rw [filter_erase hs seen e hem i hi, map_eraseIdx, hrest, map_eraseIdx]
    · rcases hal with rfl | rfl <;> exact ⟨rfl, rfl, rfl, by simp [setBlock], fun i _ hi => hset.2 i (fun e1 => hi (by rw [e1]))⟩
    · rcases hal with rfl | rfl <;> simp [setBlock]
end

/-! ### at the operation -/
section
variable {α β : Type} {P : Program} (w : World) {ops : Array Oper} {rest : List Oper} {o : Oper} {a : Act} {Q : Exit → Act → World → Prop}
theorem wpList_look_some (hg : o.guard = none) (m x : Operand) (t : TypeId) (c : Bool) (hop : o.op = Op.lookup t m x c)
    (k e : TypeId) (K : Keyed P k) (ht : P.underlying t = some (.map k e)) (kf : α → Value) (vf : β → Value) (b : Nat) (l : List (α × β)) (h : MapIs P k kf vf w b l)
    (hm : a.eval m = .map (some b)) (ka : α) (hx : a.eval x = kf ka) (i : Nat) (v : β) (hi : l[i]? = some (ka, v))
    (hK : wpList P ops Q rest (a.put o.dst (if c then .tuple #[vf v, .bool true] else vf v)) w) : wpList P ops Q (o :: rest) a w := by
  refine wpList_plain hg fun K' hK' => ?_
  unfold Oper.wp
  simp only [execOp, hop, hm, hx, h.look_some K ht c hi, Result.andThen, Sem.run_bind, Sem.run_pure, Oper.upon]
  exact hK' _ _ hK
theorem wpList_look_none (hg : o.guard = none) (m x : Operand) (t : TypeId) (c : Bool) (hop : o.op = Op.lookup t m x c)
    (k e : TypeId) (K : Keyed P k) (ht : P.underlying t = some (.map k e)) (kf : α → Value) (vf : β → Value) (b : Nat) (l : List (α × β)) (h : MapIs P k kf vf w b l)
    (z : Value) (hz : (zeroValue e).run P w = .ok z w)
    (hm : a.eval m = .map (some b)) (ka : α) (hx : a.eval x = kf ka) (y : Lit) (hy : keyOf P k (kf ka) = some y) (hn : ∀ p ∈ l, kf p.1 ≠ kf ka)
    (hK : wpList P ops Q rest (a.put o.dst (if c then .tuple #[z, .bool false] else z)) w) : wpList P ops Q (o :: rest) a w := by
  refine wpList_plain hg fun K' hK' => ?_
  unfold Oper.wp
  simp only [execOp, hop, hm, hx, h.look_none K ht c hz hy hn, Result.andThen, Sem.run_bind, Sem.run_pure, Oper.upon]
  exact hK' _ _ hK
theorem wpList_store_new (hg : o.guard = none) (m x v : Operand) (t : TypeId) (hop : o.op = Op.mapUpdate t m x v)
    (k e : TypeId) (K : Keyed P k) (ht : P.underlying t = some (.map k e)) (kf : α → Value) (vf : β → Value) (b : Nat) (l : List (α × β)) (h : MapIs P k kf vf w b l)
    (hm : a.eval m = .map (some b)) (ka : α) (hx : a.eval x = kf ka) (va : β) (hv : a.eval v = vf va) (y : Lit) (hy : keyOf P k (kf ka) = some y) (hn : ∀ p ∈ l, kf p.1 ≠ kf ka)
    (hK : ∀ w', MapIs P k kf vf w' b (l ++ [(ka, va)]) → Fr (fun i => i = b) w w' → w'.heap.size = w.heap.size → wpList P ops Q rest (a.put o.dst undef) w') : wpList P ops Q (o :: rest) a w := by
  refine wpList_plain hg fun K' hK' => ?_
  obtain ⟨w', hrun, r1, r2, r3⟩ := h.store_new K ht va hy hn
  unfold Oper.wp
  simp [execOp, hop, hm, hx, hv, hrun, Result.andThen]
  exact hK' _ _ (hK w' r1 r2 r3)
theorem wpList_store_old (hg : o.guard = none) (m x v : Operand) (t : TypeId) (hop : o.op = Op.mapUpdate t m x v)
    (k e : TypeId) (K : Keyed P k) (ht : P.underlying t = some (.map k e)) (kf : α → Value) (vf : β → Value) (b : Nat) (l : List (α × β)) (h : MapIs P k kf vf w b l)
    (hm : a.eval m = .map (some b)) (ka : α) (hx : a.eval x = kf ka) (va : β) (hv : a.eval v = vf va) (i : Nat) (u : β) (hi : l[i]? = some (ka, u))
    (hK : ∀ w', MapIs P k kf vf w' b (l.set i (ka, va)) → Fr (fun i => i = b) w w' → w'.heap.size = w.heap.size → wpList P ops Q rest (a.put o.dst undef) w') : wpList P ops Q (o :: rest) a w := by
  refine wpList_plain hg fun K' hK' => ?_
  obtain ⟨w', hrun, r1, r2, r3⟩ := h.store_old K ht va hi
  unfold Oper.wp
  simp [execOp, hop, hm, hx, hv, hrun, Result.andThen]
  exact hK' _ _ (hK w' r1 r2 r3)
theorem wpList_drop (hg : o.guard = none) (m x : Operand) (t k : TypeId) (hop : o.op = Op.call { callee := Callee.builtin Builtin.delete, args := #[m, x], argTypes := #[t, k] })
    (e : TypeId) (K : Keyed P k) (ht : P.underlying t = some (.map k e)) (kf : α → Value) (vf : β → Value) (b : Nat) (l : List (α × β)) (h : MapIs P k kf vf w b l)
    (hm : a.eval m = .map (some b)) (ka : α) (hx : a.eval x = kf ka) (i : Nat) (u : β) (hi : l[i]? = some (ka, u))
    (hK : ∀ w', MapIs P k kf vf w' b (l.eraseIdx i) → Fr (fun i => i = b) w w' → w'.heap.size = w.heap.size → wpList P ops Q rest (a.put o.dst (.tuple #[])) w') : wpList P ops Q (o :: rest) a w := by
  refine wpList_plain hg fun K' hK' => ?_
  obtain ⟨w', hrun, r1, r2, r3⟩ := h.drop_some (ty := o.type) K ht hi
  unfold Oper.wp
  simp [execOp, hop, resolve, invoke, builtin, hm, hx, hrun, Result.andThen]
  exact hK' _ _ (hK w' r1 r2 r3)
theorem wpList_len (hg : o.guard = none) (m : Operand) (t : TypeId) (hop : o.op = Op.call { callee := Callee.builtin Builtin.len, args := #[m], argTypes := #[t] })
    (k e : TypeId) (ht : P.underlying t = some (.map k e)) (kf : α → Value) (vf : β → Value) (b : Nat) (l : List (α × β)) (h : MapIs P k kf vf w b l) (hm : a.eval m = .map (some b))
    (hK : wpList P ops Q rest (a.put o.dst (.int .i64 (l.length : Int))) w) : wpList P ops Q (o :: rest) a w := by
  refine wpList_plain hg fun K' hK' => ?_
  unfold Oper.wp
  simp [execOp, hop, resolve, invoke, builtin, hm, h.len ht o.type, Result.andThen]
  exact hK' _ _ hK
theorem wpList_range (hg : o.guard = none) (m : Operand) (t : TypeId) (hop : o.op = Op.range t m) (k e : TypeId) (ht : P.underlying t = some (.map k e)) (kf : α → Value) (vf : β → Value) (b : Nat) (l : List (α × β)) (h : MapIs P k kf vf w b l)
    (hm : a.eval m = .map (some b))
    (hK : ∀ w', IterIs P k kf vf w' w.heap.size b l l → Fr (fun _ => False) w w' → w'.heap.size = w.heap.size + 1 → wpList P ops Q rest (a.put o.dst (.pointer (some ⟨w.heap.size, 0, none⟩))) w') : wpList P ops Q (o :: rest) a w := by
  refine wpList_plain hg fun K' hK' => ?_
  obtain ⟨w', hrun, r1, r2, r3⟩ := h.range (S := fun _ => False) ht
  unfold Oper.wp
  simp [execOp, hop, hm, hrun, Result.andThen]
  exact hK' _ _ (hK w' r1 r2 r3)
theorem wpList_next_ (hg : o.guard = none) (it : Operand) (hop : o.op = Op.next it false) (k : TypeId) (kf : α → Value) (vf : β → Value) (r b : Nat) (l lr : List (α × β)) (h : IterIs P k kf vf w r b l lr)
    (hit : a.eval it = .pointer (some ⟨r, 0, none⟩))
    (hDone : lr = [] → wpList P ops Q rest (a.put o.dst (.tuple #[.bool false])) w)
    (hMore : ∀ (i : Nat) (x : α) (v : β) (w' : World), lr[i]? = some (x, v) → IterIs P k kf vf w' r b l (lr.eraseIdx i) → Fr (fun j => j = r) w w' → w'.heap.size = w.heap.size → (Instr.entry (.pointer (some ⟨r, 0, none⟩))).run P w' = .ok (.tuple #[kf x, vf v]) w' → wpList P ops Q rest (a.put o.dst (.tuple #[.bool true, kf x, vf v])) w') :
    wpList P ops Q (o :: rest) a w := by
  refine wpList_plain hg fun K' hK' => ?_
  unfold Oper.wp
  rcases h.next o.type with ⟨h0, hrun⟩ | ⟨i, x, v, w', hi, hrun, hit', hfr, hsz, hen⟩
  · simp [execOp, hop, hit, hrun, Result.andThen]
    exact hK' _ _ (hDone h0)
  · simp [execOp, hop, hit, hrun, Result.andThen]
    exact hK' _ _ (hMore i x v w' hi hit' hfr hsz hen)
end
end Go.Proofs.YtnklbeigikcfkaaGreatDoor
