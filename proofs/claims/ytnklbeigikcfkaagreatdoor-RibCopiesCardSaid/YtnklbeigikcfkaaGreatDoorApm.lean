/- append of many, of none. -/
import Derived.Test.YtnklbeigikcfkaaGreatDoorOwn
import Derived.Deep.AppendSrc
namespace Go.Proofs.YtnklbeigikcfkaaGreatDoor
open Go.RowKit

/-- 'append(s, x...)' onto a slice of the call's own. -/
theorem wpList_appendM {P : Program} (w : World) {ops : Array Oper} {rest : List Oper} {o : Oper} {a : Act} {Q : Exit → Act → World → Prop} (hgd : o.guard = none) (s x : Operand) (t : TypeId)
    (ho : o.op = .call { callee := .builtin .append, args := #[s, x], argTypes := #[t, t] })
    (e : TypeId) (i : TypeInfo) (z : Value) (size bytes : Nat) (ht : P.underlying t = some (.slice e)) (hi : P.info? e = some i) (hz : i.zero = some z)
    (hsize : i.size = size) (hby : i.bytes = bytes) (hzs : z.cells.size = size) (hsz : 0 < size)
    (A : Option Addr) (n c : Nat) (xs : List Value) (hs : a.eval s = .slice A n c) (hown : Own w e size A n c xs)
    (ad : Addr) (m cm : Nat) (us : List Value) (hx : a.eval x = .slice (some ad) m cm) (hl : us.length = m * size) (hus : ∀ j u, us[j]? = some u → w.cell? (ad.add j) = some u) (h1 : ∀ u ∈ us, u.oneCell' = true)
    (hbytes : (n + m) * bytes ≤ 140737488355328) (h63 : n + m ≤ 9223372036854775807)
    (h : ∀ A' c' w', Own w' e size A' (n + m) c' (xs ++ us) → Fr (fun i => A = some ⟨i, 0, none⟩) w w' → (A' = A ∨ ∃ g', A' = some ⟨g', 0, none⟩ ∧ w.heap.size ≤ g') → wpList P ops Q rest (a.put o.dst (.slice A' (n + m) c')) w') :
    wpList P ops Q (o :: rest) a w := by
  refine wpList_append_own_at _ hgd s x t ho 0 e i z size bytes ht hi hz hsize hby hzs hsz _ n xs hs hown.row ad m cm us hx hl hus h1 h63 hbytes (Nat.zero_le _) ?_
  intro v' w1 hown' hgrow hnil hat
  have hfr : Fr (fun i => A = some ⟨i, 0, none⟩) w w1 := by
    refine Fr.grown (Fr.refl _ w) hgrow fun i hi => ?_
    cases A with
    | none => simp [Value.ownBlock] at hi
    | some ad =>
      left
      simp [Value.ownBlock] at hi
      rcases hown.2 with ⟨h, _⟩ | ⟨g, _, hg, _⟩
      · cases h
      · injection hg with hg
        subst hg
        simp at hi
        rw [hi]
  rcases hown'.2 with ⟨hv, h0⟩ | ⟨g', c', cur, hv, _⟩
  · have hA := (hnil.1 hv).1
    injection hA with hA1 _ _
    have hn0 : n + m = 0 := h0
    have hxs : xs ++ us = [] := List.length_eq_zero_iff.1 (by rw [hown'.1, hn0, Nat.zero_mul])
    have := h none 0 w1 (by rw [hn0, hxs]; exact Own.nil_ _ _ _) hfr (.inl hA1.symm)
    rw [hv]
    rw [hn0] at this
    exact this
  · subst hv
    refine h _ c' w1 (Own.of_row hown') hfr ?_
    rcases hat with hat | hat
    · left
      cases A with
      | none => simp [Value.ownBlock] at hat
      | some ad =>
        rcases hown.2 with ⟨h, _⟩ | ⟨g, _, hg, _⟩
        · cases h
        · injection hg with hg
          subst hg
          simp [Value.ownBlock] at hat
          rw [hat]
    · right
      simp [Value.ownBlock] at hat
      exact ⟨g', rfl, by omega⟩
/-- 'append(s, nil...)'. -/
theorem wpList_append0 {P : Program} (w : World) {ops : Array Oper} {rest : List Oper} {o : Oper} {a : Act} {Q : Exit → Act → World → Prop} (hgd : o.guard = none) (s x : Operand) (t : TypeId)
    (ho : o.op = .call { callee := .builtin .append, args := #[s, x], argTypes := #[t, t] })
    (e : TypeId) (i : TypeInfo) (ht : P.underlying t = some (.slice e)) (hi : P.info? e = some i)
    {size : Nat} (A : Option Addr) (n c : Nat) (xs : List Value) (hs : a.eval s = .slice A n c) (hown : Own w e size A n c xs)
    (hx : a.eval x = .slice none 0 0) (h : wpList P ops Q rest (a.put o.dst (.slice A n c)) w) :
    wpList P ops Q (o :: rest) a w := by
  have hr : (Builtin.append_ #[t, t] o.type #[.slice A n c, .slice none 0 0]).run P w = .ok (.slice A n c) w := by
    rcases hown.2 with ⟨rfl, rfl, rfl⟩ | ⟨g, cur, rfl, hg, hnc, _⟩
    · simp [Builtin.append_, run_underlying ht, sizeOf, typeInfo, hi, Builtin.lenOf, Builtin.firstCells]
    · exact run_append_room_src (P := P) w t t o.type e i ht hi g 0 n c _ 0 [] (Src.ofNil w ht 0) (by omega) (fun j h => by simp at h) (fun j h => by simp at h)
  refine wpList_plain hgd fun K hK => ?_
  unfold Oper.wp execOp
  simp only [ho, resolve, invoke, builtin, Sem.run_bind, Sem.run_pure, Result.andThen_ok, List.map_toArray, List.map_cons, List.map_nil, hs, hx, hr]
  exact hK _ _ h
end Go.Proofs.YtnklbeigikcfkaaGreatDoor
