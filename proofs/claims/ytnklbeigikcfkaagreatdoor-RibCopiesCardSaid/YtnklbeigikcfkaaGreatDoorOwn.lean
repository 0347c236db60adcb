/- A slice that is the call's own, its value written out; what an append of one element leaves. -/
import Derived.Test.YtnklbeigikcfkaaGreatDoorBase
import Derived.Maps.AppendAt
import Derived.Deep.AppendLies
namespace Go.Proofs.YtnklbeigikcfkaaGreatDoor
open Go.RowKit

/-- The slice '.slice A n c' owns the cells xs, n elements of type e, of 'size' cells each. -/
def Own (w : World) (e : TypeId) (size : Nat) (A : Option Addr) (n c : Nat) (xs : List Value) : Prop :=
  xs.length = n * size ∧ ((A = none ∧ n = 0 ∧ c = 0) ∨
    ∃ g cur, A = some ⟨g, 0, none⟩ ∧ w.heap[g]? = some (.cells cur e (0, 0)) ∧ n ≤ c ∧ c ≤ maxLen ∧ cur.size = c * size ∧ cur.toList.take (n * size) = xs)

section
variable {w w' : World} {e : TypeId} {size n c : Nat} {A : Option Addr} {xs : List Value} {S : Nat → Prop}
theorem Own.nil_ (w : World) (e : TypeId) (size : Nat) : Own w e size none 0 0 [] := ⟨by simp, .inl ⟨rfl, rfl, rfl⟩⟩
theorem Own.row (h : Own w e size A n c xs) : w.ownsRow 0 e size (.slice A n c) n xs := by
  obtain ⟨hl, h⟩ := h
  refine ⟨hl, ?_⟩
  rcases h with ⟨rfl, rfl, rfl⟩ | ⟨g, cur, rfl, hg, hnc, hcm, hcs, ht⟩
  · exact .inl ⟨rfl, rfl⟩
  · exact .inr ⟨g, c, cur, rfl, Nat.zero_le _, hg, hnc, hcm, hcs, ht⟩
theorem Own.of_row {g : Nat} {base : Nat} (h : w.ownsRow base e size (.slice (some ⟨g, 0, none⟩) n c) n xs) : Own w e size (some ⟨g, 0, none⟩) n c xs := by
  obtain ⟨hl, h⟩ := h
  refine ⟨hl, .inr ?_⟩
  rcases h with ⟨h, _⟩ | ⟨g', cap, cur, hv, _, hg, hnc, hcm, hcs, ht⟩
  · cases h
  · injection hv with h1 h2 h3
    injection h1 with h1
    injection h1 with h1
    subst h1 h3
    exact ⟨g, cur, rfl, hg, hnc, hcm, hcs, ht⟩
theorem Own.fr (h : Own w e size A n c xs) (k : Fr S w w') (hS : ∀ g, A = some ⟨g, 0, none⟩ → ¬ S g) : Own w' e size A n c xs := by
  obtain ⟨hl, h⟩ := h
  refine ⟨hl, ?_⟩
  rcases h with h | ⟨g, cur, rfl, hg, r⟩
  · exact .inl h
  · refine .inr ⟨g, cur, rfl, (k.block g ?_ (hS g rfl)).trans hg, r⟩
    rcases Nat.lt_or_ge g w.heap.size with hlt | hge
    · exact hlt
    · rw [Array.getElem?_eq_none hge] at hg; cases hg
theorem Own.lt (h : Own w e size A n c xs) {g : Nat} (hA : A = some ⟨g, 0, none⟩) : g < w.heap.size := by
  obtain ⟨hl, h⟩ := h
  rcases h with ⟨rfl, _⟩ | ⟨g', cur, rfl, hg, r⟩
  · cases hA
  · injection hA with hA
    injection hA with hA
    subst hA
    rcases Nat.lt_or_ge g' w.heap.size with hlt | hge
    · exact hlt
    · rw [Array.getElem?_eq_none hge] at hg; cases hg
theorem Own.len_le (h : Own w e size A n c xs) : n ≤ c ∧ c ≤ 9223372036854775807 := by
  obtain ⟨hl, h⟩ := h
  rcases h with ⟨rfl, rfl, rfl⟩ | ⟨g', cur, rfl, hg, hnc, hcm, r⟩
  · exact ⟨Nat.le_refl _, by omega⟩
  · exact ⟨hnc, hcm⟩
theorem Own.some_ (h : Own w e size A n c xs) (hn : 0 < n) : ∃ g, A = some ⟨g, 0, none⟩ := by
  obtain ⟨hl, h⟩ := h
  rcases h with ⟨rfl, rfl, rfl⟩ | ⟨g', cur, rfl, _⟩
  · omega
  · exact ⟨g', rfl⟩
theorem Own.cell {g : Nat} (h : Own w e size (some ⟨g, 0, none⟩) n c xs) (j : Nat) (hj : j < n * size) : w.cell? ⟨g, j, none⟩ = xs[j]? := h.row.cellAt j hj
theorem Own.cell_none {g : Nat} (h : Own w e size (some ⟨g, 0, none⟩) n c xs) (j : Nat) : w.frozen? ⟨g, j, none⟩ = false := h.row.frozenAt j
theorem Own.block_ne {g b : Nat} {t : TypeId} {cs : Array Value} (h : Own w e size (some ⟨g, 0, none⟩) n c xs) (hb : Blk w b t cs) (hne : e ≠ t) : g ≠ b := by
  obtain ⟨hl, h⟩ := h
  rcases h with ⟨h, _⟩ | ⟨g', cur, hv, hg, _⟩
  · cases h
  · injection hv with hv
    injection hv with hv
    subst hv
    rintro rfl
    exact Blk.ne_ (t := e) hg hb hne rfl
/-- A store of one cell into what is owned. -/
theorem Own.set_ {g : Nat} (h : Own w e size (some ⟨g, 0, none⟩) n c xs) (j : Nat) (u : Value) : Own (w.setCell ⟨g, j, none⟩ u) e size (some ⟨g, 0, none⟩) n c (xs.set j u) := by
  obtain ⟨hl, h⟩ := h
  refine ⟨by simpa using hl, .inr ?_⟩
  rcases h with ⟨h, _⟩ | ⟨g', cur, hv, hg, hnc, hcm, hcs, ht⟩
  · cases h
  · injection hv with hv
    injection hv with hv
    subst hv
    refine ⟨g, cur.setIfInBounds j u, rfl, ?_, hnc, hcm, by simpa using hcs, ?_⟩
    · simp [World.setCell, Array.getElem?_modify, hg]
    · rw [Array.toList_setIfInBounds, List.take_set, ht]
end

theorem cells_new (w : World) (us : List Value) (t : TypeId) : ∀ j u, us[j]? = some u → (w.alloc (.cells us.toArray t)).cell? ((⟨w.heap.size, 0, none⟩ : Addr).add j) = some u := by
  intro j u hj
  have h := (Blk.new w t us.toArray).cell j
  simp only [List.getElem?_toArray] at h
  rw [hj] at h
  have : (⟨w.heap.size, 0, none⟩ : Addr).add j = ⟨w.heap.size, j, none⟩ := by
    unfold Addr.add
    by_cases h0 : j = 0
    · subst h0; simp
    · rw [if_neg h0]; simp
  rw [this]
  exact h

/-- 'append(s, x)' of one element onto a slice of the call's own: the element lies in a new block already. -/
theorem wpList_append1 {P : Program} (w : World) {ops : Array Oper} {rest : List Oper} {o : Oper} {a : Act} {Q : Exit → Act → World → Prop} (hgd : o.guard = none) (s x : Operand) (t : TypeId)
    (ho : o.op = .call { callee := .builtin .append, args := #[s, x], argTypes := #[t, t] })
    (e : TypeId) (i : TypeInfo) (z : Value) (size bytes : Nat) (ht : P.underlying t = some (.slice e)) (hi : P.info? e = some i) (hz : i.zero = some z)
    (hsize : i.size = size) (hby : i.bytes = bytes) (hzs : z.cells.size = size) (hsz : 0 < size)
    (A : Option Addr) (n c : Nat) (xs : List Value) (hs : a.eval s = .slice A n c) (hown : Own w e size A n c xs)
    (us : List Value) (hx : a.eval x = .slice (some ⟨w.heap.size, 0, none⟩) 1 1) (hl : us.length = size) (h1 : ∀ u ∈ us, u.oneCell' = true)
    (hbytes : (n + 1) * bytes ≤ 140737488355328) (h63 : n + 1 ≤ 9223372036854775807)
    (h : ∀ g' c' w', Own w' e size (some ⟨g', 0, none⟩) (n + 1) c' (xs ++ us) → Fr (fun i => A = some ⟨i, 0, none⟩) w w' → (A = some ⟨g', 0, none⟩ ∨ w.heap.size ≤ g') → wpList P ops Q rest (a.put o.dst (.slice (some ⟨g', 0, none⟩) (n + 1) c')) w') :
    wpList P ops Q (o :: rest) a (w.alloc (.cells us.toArray e)) := by
  refine wpList_append_own_at _ hgd s x t ho 0 e i z size bytes ht hi hz hsize hby hzs hsz _ n xs hs (hown.row.alloc _) ⟨w.heap.size, 0, none⟩ 1 1 us hx (by simp [hl]) (cells_new w us e) h1 h63 hbytes (Nat.zero_le _) ?_
  intro v' w1 hown' hgrow hnil hat
  have hex : ∃ g' c', v' = .slice (some ⟨g', 0, none⟩) (n + 1) c' := by
    rcases hown'.2 with ⟨_, h0⟩ | ⟨g', c', cur, hv, _⟩
    · omega
    · exact ⟨g', c', hv⟩
  obtain ⟨g', c', rfl⟩ := hex
  have hfr : Fr (fun i => A = some ⟨i, 0, none⟩) w w1 := by
    refine Fr.grown ((Fr.refl _ w).alloc _) hgrow fun i hi => ?_
    cases A with
    | none => simp [Value.ownBlock] at hi
    | some ad =>
      left
      simp [Value.ownBlock] at hi
      have hg := (hown.2)
      rcases hg with ⟨h, _⟩ | ⟨g, _, hg, _⟩
      · cases h
      · injection hg with hg
        subst hg
        simp at hi
        rw [hi]
  refine h g' c' w1 (Own.of_row hown') hfr ?_
  rcases hat with hat | hat
  · left
    cases A with
    | none => simp [Value.ownBlock] at hat
    | some ad =>
      rcases hown.2 with ⟨h, _⟩ | ⟨g, _, hg, _⟩
      · cases h
      · injection hg with hg
        subst hg
        simp [Value.ownBlock] at hat
        rw [hat]
  · right
    simp [Value.ownBlock] at hat
    omega
/-- An append at a step of a region that draws its order, by an equation on its run. -/
theorem step_append_run {P : Program} {w : World} {ops : Array Oper} {o : Oper} {a : Act} {K : Act → World → Prop} {Q : Exit → Act → World → Prop} {E : Prop} (hgd : o.guard = none) (s x : Operand) (t : TypeId)
    (ho : o.op = .call { callee := .builtin .append, args := #[s, x], argTypes := #[t, t] }) (v1 v2 v : Value) (w' : World) (hs : a.eval s = v1) (hx : a.eval x = v2)
    (hrun : (Builtin.append_ #[t, t] o.type #[v1, v2]).run P w = .ok v w') (h : K (a.put o.dst v) w') :
    if Region.wanted o (yielded ops a.tmps) = true then Oper.wp P o a w K Q else E := by
  have hw : Region.wanted o (yielded ops a.tmps) = true := by simp [Region.wanted, hgd]
  rw [if_pos hw]
  unfold Oper.wp
  simp [execOp, ho, resolve, invoke, builtin, hs, hx, hrun, Result.andThen]
  exact h
/-- The same as an equation on the run, for a region that draws its order. -/
theorem run_append1 {P : Program} (w : World) (t ty : TypeId)
    (e : TypeId) (i : TypeInfo) (z : Value) (size bytes : Nat) (ht : P.underlying t = some (.slice e)) (hi : P.info? e = some i) (hz : i.zero = some z)
    (hsize : i.size = size) (hby : i.bytes = bytes) (hzs : z.cells.size = size) (hsz : 0 < size)
    (A : Option Addr) (n c : Nat) (xs : List Value) (hown : Own w e size A n c xs)
    (us : List Value) (hl : us.length = size) (h1 : ∀ u ∈ us, u.oneCell' = true)
    (hbytes : (n + 1) * bytes ≤ 140737488355328) (h63 : n + 1 ≤ 9223372036854775807) :
    ∃ g' c' w', (Builtin.append_ #[t, t] ty #[.slice A n c, .slice (some ⟨w.heap.size, 0, none⟩) 1 1]).run P (w.alloc (.cells us.toArray e)) = .ok (.slice (some ⟨g', 0, none⟩) (n + 1) c') w' ∧
      Own w' e size (some ⟨g', 0, none⟩) (n + 1) c' (xs ++ us) ∧ Fr (fun i => A = some ⟨i, 0, none⟩) w w' ∧ (A = some ⟨g', 0, none⟩ ∨ w.heap.size ≤ g') := by
  obtain ⟨v', w1, hrun, hown', hgrow, hnil, hat⟩ := run_append_own_at (P := P) _ 0 t ty e i z size bytes ht hi hz hsize hby hzs hsz _ n xs (hown.row.alloc (.cells us.toArray e)) ⟨w.heap.size, 0, none⟩ 1 1 us (by simp [hl]) (cells_new w us e) h1 h63 hbytes (Nat.zero_le _)
  have hex : ∃ g' c', v' = .slice (some ⟨g', 0, none⟩) (n + 1) c' := by
    rcases hown'.2 with ⟨_, h0⟩ | ⟨g', c', cur, hv, _⟩
    · omega
    · exact ⟨g', c', hv⟩
  obtain ⟨g', c', rfl⟩ := hex
  have hfr : Fr (fun i => A = some ⟨i, 0, none⟩) w w1 := by
    refine Fr.grown ((Fr.refl _ w).alloc _) hgrow fun i hi => ?_
    cases A with
    | none => simp [Value.ownBlock] at hi
    | some ad =>
      left
      simp [Value.ownBlock] at hi
      have hg := (hown.2)
      rcases hg with ⟨h, _⟩ | ⟨g, _, hg, _⟩
      · cases h
      · injection hg with hg
        subst hg
        simp at hi
        rw [hi]
  refine ⟨g', c', w1, hrun, Own.of_row hown', hfr, ?_⟩
  rcases hat with hat | hat
  · left
    cases A with
    | none => simp [Value.ownBlock] at hat
    | some ad =>
      rcases hown.2 with ⟨h, _⟩ | ⟨g, _, hg, _⟩
      · cases h
      · injection hg with hg
        subst hg
        simp [Value.ownBlock] at hat
        rw [hat]
  · right
    simp [Value.ownBlock] at hat
    omega
end Go.Proofs.YtnklbeigikcfkaaGreatDoor
