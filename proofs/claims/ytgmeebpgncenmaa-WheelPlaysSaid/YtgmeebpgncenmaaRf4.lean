/- The document's own wheel: Cancel. -/
import Derived.Test.YtgmeebpgncenmaaRf3
namespace Go.Proofs.Ytgmeebpgncenmaa
open Go.RowKit

/-- 'append(s, x...)' onto a slice of the call's own. -/
theorem wpList_appendM {P : Program} (w : World) {ops : Array Oper} {rest : List Oper} {o : Oper} {a : Act} {Q : Exit → Act → World → Prop} (hgd : o.guard = none) (s x : Operand) (t : TypeId)
    (ho : o.op = .call { callee := .builtin .append, args := #[s, x], argTypes := #[t, t] })
    (e : TypeId) (i : TypeInfo) (z : Value) (size bytes : Nat) (ht : P.underlying t = some (.slice e)) (hi : P.info? e = some i) (hz : i.zero = some z)
    (hsize : i.size = size) (hby : i.bytes = bytes) (hzs : z.cells.size = size) (hsz : 0 < size)
    (A : Option Addr) (n c : Nat) (xs : List Value) (hs : a.eval s = .slice A n c) (hown : Own w e size A n c xs)
    (ad : Addr) (m cm : Nat) (us : List Value) (hx : a.eval x = .slice (some ad) m cm) (hl : us.length = m * size) (hus : ∀ j u, us[j]? = some u → w.cell? (ad.add j) = some u) (h1 : ∀ u ∈ us, u.oneCell' = true)
    (hbytes : (n + m) * bytes ≤ 140737488355328) (h63 : n + m ≤ 9223372036854775807)
    (h : ∀ A' c' w', Own w' e size A' (n + m) c' (xs ++ us) → Fr (fun i => A = some ⟨i, 0, none⟩) w w' → (A' = A ∨ ∃ g', A' = some ⟨g', 0, none⟩ ∧ w.heap.size ≤ g') → wpList P ops Q rest (a.put o.dst (.slice A' (n + m) c')) w') :
    wpList P ops Q (o :: rest) a w := by
  refine wpList_append_own_at _ hgd s x t ho 0 e i z size bytes ht hi hz hsize hby hzs hsz _ n xs hs hown.row ad m cm us hx hl hus h1 h63 hbytes (Nat.zero_le _) ?_
  intro v' w1 hown' hgrow hnil hat
  have hfr : Fr (fun i => A = some ⟨i, 0, none⟩) w w1 := by
    refine Fr.grown (Fr.refl _ w) hgrow fun i hi => ?_
    cases A with
    | none => simp [Value.ownBlock] at hi
    | some ad =>
      left
      simp [Value.ownBlock] at hi
      rcases hown.2 with ⟨h, _⟩ | ⟨g, _, hg, _⟩
      · cases h
      · injection hg with hg
        subst hg
        simp at hi
        rw [hi]
  rcases hown'.2 with ⟨hv, h0⟩ | ⟨g', c', cur, hv, _⟩
  · have hA := (hnil.1 hv).1
    injection hA with hA1 _ _
    have hn0 : n + m = 0 := h0
    have hxs : xs ++ us = [] := List.length_eq_zero_iff.1 (by rw [hown'.1, hn0, Nat.zero_mul])
    have := h none 0 w1 (by rw [hn0, hxs]; exact Own.nil_ _ _ _) hfr (.inl hA1.symm)
    rw [hv]
    rw [hn0] at this
    exact this
  · subst hv
    refine h _ c' w1 (Own.of_row hown') hfr ?_
    rcases hat with hat | hat
    · left
      cases A with
      | none => simp [Value.ownBlock] at hat
      | some ad =>
        rcases hown.2 with ⟨h, _⟩ | ⟨g, _, hg, _⟩
        · cases h
        · injection hg with hg
          subst hg
          simp [Value.ownBlock] at hat
          rw [hat]
    · right
      simp [Value.ownBlock] at hat
      exact ⟨g', rfl, by omega⟩
theorem rcs_one_cell (l : List Tm) : ∀ u ∈ rcs l, u.oneCell' = true := by
  intro u hu
  obtain ⟨t, _, ht⟩ := List.mem_flatMap.1 hu
  simp [Tm.rc] at ht
  rcases ht with rfl | rfl <;> rfl
theorem rcs_take (l : List Tm) (p : Nat) : (rcs l).take (p * 2) = rcs (l.take p) := by
  induction l generalizing p with
  | nil => simp [rcs]
  | cons x r ih =>
    cases p with
    | zero => rfl
    | succ p =>
      have e : rcs (x :: r) = .int .i64 x.id :: .int .i64 (x.due : Int) :: rcs r := rfl
      rw [e, show (p + 1) * 2 = p * 2 + 1 + 1 by omega, List.take_succ_cons, List.take_succ_cons, ih]
      rfl
theorem rcs_drop (l : List Tm) (p : Nat) : (rcs l).drop (p * 2) = rcs (l.drop p) := by
  induction l generalizing p with
  | nil => simp [rcs]
  | cons x r ih =>
    cases p with
    | zero => rfl
    | succ p =>
      have e : rcs (x :: r) = .int .i64 x.id :: .int .i64 (x.due : Int) :: rcs r := rfl
      rw [e, show (p + 1) * 2 = p * 2 + 1 + 1 by omega, List.drop_succ_cons, List.drop_succ_cons, ih]
      rfl
section
variable {w : World} {q now : Nat} {F : Nat → Prop} {L : List Tm}
set_option maxHeartbeats 1600000 in
theorem rcan_no (h : RWh w q F now L) (hl : L.length ≤ 1000) (id : Int) (hno : ∀ t, t ∈ L → t.id ≠ id) :
    Calls Try.prog 17 #[.pointer (some ⟨q, 0, none⟩), .int .i64 id] w fun e w' => e = .returned (.bool false) ∧ w = w' := by
  have HC := Lib.hid (rat_none h hl id hno)
  clear hno
  go_enter Try.func17, Try.ntmps17
  go_wp2_with fail
  refine HC.out.mono ?_
  rintro e w2 ⟨rfl, rfl⟩
  go_wp2_with fail
  go_ret
  exact ⟨rfl, rfl⟩
def RCan (w : World) (q now : Nat) (F : Nat → Prop) (L' : List Tm) (e : Ending) (w' : World) : Prop := e = .returned (.bool true) ∧ RWh w' q (Fn F w) now L' ∧ Fr F w w'
set_option maxRecDepth 100000 in
set_option maxHeartbeats 3200000 in
theorem rcan_yes (h : RWh w q F now L) (hl : L.length ≤ 1000) (hids : L.Pairwise fun x y => x.id ≠ y.id) (t : Tm) (ht : t ∈ L) :
    Calls Try.prog 17 #[.pointer (some ⟨q, 0, none⟩), .int .i64 t.id] w (RCan w q now F (noT t L)) := by
  obtain ⟨p, hp, hb⟩ := first_ix ht
  have hb2 : ∀ j u, j < p → L[j]? = some u → u.id ≠ t.id := fun j u hj hu => by
    obtain ⟨h1, e1⟩ := List.getElem?_eq_some_iff.1 hu
    obtain ⟨h2, e2⟩ := List.getElem?_eq_some_iff.1 hp
    have := List.pairwise_iff_getElem.1 hids j p h1 h2 hj
    rwa [e1, e2] at this
  have HC := Lib.hid (rat_some h hl p t hp hb2)
  have hpl : p < L.length := (List.getElem?_eq_some_iff.1 hp).1
  have hL' : noT t L = L.take p ++ L.drop (p + 1) := by
    have e : L = L.take p ++ t :: L.drop (p + 1) := by
      obtain ⟨h2, e2⟩ := List.getElem?_eq_some_iff.1 hp
      rw [← e2, ← List.drop_eq_getElem_cons h2, List.take_append_drop]
    have hnd : L.Nodup := hids.imp fun {a b} hab e => hab (by rw [e])
    rw [e] at hnd
    rw [List.nodup_append] at hnd
    conv => lhs; rw [e]
    unfold noT
    rw [List.filter_append, List.filter_cons]
    have h1 : (L.take p).filter (fun u => !decide (u = t)) = L.take p := List.filter_eq_self.2 fun u hu => by
      have : u ≠ t := hnd.2.2 u hu t (by simp)
      simp [this]
    have h2 : (L.drop (p + 1)).filter (fun u => !decide (u = t)) = L.drop (p + 1) := List.filter_eq_self.2 fun u hu => by
      have : u ≠ t := fun e => (List.nodup_cons.1 hnd.2.1).1 (e ▸ hu)
      simp [this]
    rw [h1, h2]
    simp
  obtain ⟨A, c, hB, hO, hFq, hFA⟩ := h
  obtain ⟨g, rfl⟩ := hO.some_ (by omega)
  have b1 := hB.cell 1
  simp only [List.getElem?_toArray, List.getElem?_cons_zero, List.getElem?_cons_succ] at b1
  have hq := hB.lt
  have hcc := hO.len_le
  have hgq : g ≠ q := hO.block_ne hB (by decide)
  have HB := Lib.hid hB
  have HO := Lib.hid hO
  have HFQ := Lib.hid hFq
  have HFA := Lib.hid (hFA g rfl)
  have HL := Lib.hid hL'
  obtain ⟨n, hn⟩ : ∃ n, n = L.length := ⟨_, rfl⟩
  have HN := Lib.hid hn
  rw [← hn] at hpl b1 hcc hl
  have hgl := hO.lt rfl
  clear hB hO hFq hFA hL' hn hb hb2 hp hids
  have hpn : (p : Int) < (n : Int) := by omega
  have hpc : (p : Int) ≤ (c : Int) := by omega
  have hpz : ((p : Int) < 0) = False := by simp
  obtain ⟨i0, hi, hz0, hz1, hz2⟩ := info_parts info62
  have hadd : ∀ o k : Nat, (⟨g, o, none⟩ : Addr).add k = ⟨g, o + k, none⟩ := fun o k => by
    unfold Addr.add
    by_cases h0 : k = 0
    · subst h0; simp
    · rw [if_neg h0]
  have HADD := Lib.hid hadd
  clear hadd
  go_enter Try.func17, Try.ntmps17
  go_wp2_with fail
  refine HC.out.mono ?_
  rintro e w2 ⟨rfl, rfl⟩
  go_wp2_with (at_builtin; refine wpList_appendM w rfl (.tmp 12) (.tmp 18) 41 rfl 62 i0 _ 2 16 Try.underlying41 hi hz0 hz1 hz2 rfl (by omega) none 0 0 [] rfl (Own.nil_ _ _ _) ⟨g, 0, none⟩ p c (rcs (L.take p)) rfl ?_ ?_ (rcs_one_cell _) ?_ ?_ ?_)
  · rw [rcs_length, List.length_take]; have := HN.out; omega
  · intro j u hj
    rw [HADD.out, Nat.zero_add]
    have hjl := (List.getElem?_eq_some_iff.1 hj).1
    rw [rcs_length, List.length_take] at hjl
    rw [HO.out.cell j (by have := HN.out; omega)]
    rw [← rcs_take, List.getElem?_take, if_pos (by omega)] at hj
    exact hj
  · omega
  · omega
  · intro A1 c1 w1 ho1 f1 hA1
    have f1' : Fr (fun _ => False) w w1 := f1.mono fun _ _ h => by cases h
    have hB1 := HB.out.fr f1' id
    have hO1 := HO.out.fr f1' fun _ _ => id
    have b1' := hB1.cell 1
    have zf := hB1.frozen 1
    simp only [List.getElem?_toArray, List.getElem?_cons_zero, List.getElem?_cons_succ] at b1'
    rw [← HN.out] at b1'
    have HB1 := Lib.hid hB1
    have HO1 := Lib.hid hO1
    have HO2 := Lib.hid ho1
    have HF1 := Lib.hid f1'
    have hq1 := hB1.lt
    have hA1' : ∀ g', A1 = some ⟨g', 0, none⟩ → w.heap.size ≤ g' := fun g' e => by
      rcases hA1 with h | ⟨g2, h, h2⟩
      · rw [h] at e; cases e
      · rw [h, Option.some.injEq, Addr.mk.injEq] at e; omega
    have HA1 := Lib.hid hA1'
    clear hB1 hO1 ho1 f1 f1' hA1 hA1'
    by_cases hcp : c = p + 1
    · have HZ := Lib.hid (show n = p + 1 by omega)
      have hcpi : ((c : Int) = (p : Int) + 1) := by omega
      go_wp2_with (at_builtin; refine wpList_appendM w1 rfl (.tmp 21) (.tmp 28) 41 rfl 62 i0 _ 2 16 Try.underlying41 hi hz0 hz1 hz2 rfl (by omega) A1 p c1 _ rfl HO2.out ⟨g, 0, none⟩ (n - (p + 1)) (0) (rcs (L.drop (p + 1))) rfl ?_ ?_ (rcs_one_cell _) ?_ ?_ ?_)
      · rw [rcs_length, List.length_drop]; have := HN.out; omega
      · intro j u hj
        have hjl := (List.getElem?_eq_some_iff.1 hj).1
        rw [rcs_length, List.length_drop] at hjl
        have := HZ.out
        have := HN.out
        omega
      · omega
      · omega
      · intro A2 c2 w3 ho2 f2 hA2
        have hB3 := HB1.out.fr f2 (fun e => by have := HA1.out _ e; omega)
        have b3 := hB3.cell 1
        have z3 := hB3.frozen 1
        simp only [List.getElem?_toArray, List.getElem?_cons_zero, List.getElem?_cons_succ] at b3
        rw [← HN.out] at b3
        have hlen : (noT t L).length = p + (n - (p + 1)) := by rw [HL.out, List.length_append, List.length_take, List.length_drop]; have := HN.out; omega
        have hA2' : ∀ g', A2 = some ⟨g', 0, none⟩ → w.heap.size ≤ g' := fun g' e => by
          rcases hA2 with h | ⟨g2, h, h2⟩
          · exact HA1.out g' (by rw [← h, e])
          · rw [h, Option.some.injEq, Addr.mk.injEq] at e; have := HF1.out.size; omega
        have hfin : RCan w q now F (noT t L) (.returned (.bool true)) (w3.setCell ⟨q, 1, none⟩ (.slice A2 (p + (n - (p + 1))) c2)) := by
          have f : Fr (fun i => i = q) w3 (w3.setCell ⟨q, 1, none⟩ (.slice A2 (p + (n - (p + 1))) c2)) := (Fr.refl (fun i => i = q) _).setCell (.inl rfl) _
          refine ⟨rfl, ⟨A2, c2, by rw [hlen]; exact hB3.set_ 1 _, ?_, .inl HFQ.out, fun g' e => .inr (hA2' g' e)⟩, ?_⟩
          · rw [hlen, HL.out, rcs_append]
            exact ho2.fr f fun g' e h => by have := hA2' g' e; omega
          · exact (((HF1.out.mono fun _ _ h => h.elim).step f2 fun i hi => .inr (HA1.out i hi))).setCell (.inl HFQ.out) _
        have HFI := Lib.hid hfin
        clear hfin ho2 f2 hA2 hA2' hB3 hlen b1'
        go_wp2_with fail
        go_ret
        exact HFI.out
    · go_wp2_with (at_builtin; refine wpList_appendM w1 rfl (.tmp 21) (.tmp 28) 41 rfl 62 i0 _ 2 16 Try.underlying41 hi hz0 hz1 hz2 rfl (by omega) A1 p c1 _ rfl HO2.out ⟨g, (p + 1) * 2, none⟩ (n - (p + 1)) (c - (p + 1)) (rcs (L.drop (p + 1))) rfl ?_ ?_ (rcs_one_cell _) ?_ ?_ ?_)
      · rw [rcs_length, List.length_drop]; have := HN.out; omega
      · intro j u hj
        have hjl := (List.getElem?_eq_some_iff.1 hj).1
        rw [rcs_length, List.length_drop] at hjl
        rw [HADD.out, HO1.out.cell ((p + 1) * 2 + j) (by have := HN.out; omega)]
        rw [← rcs_drop, List.getElem?_drop] at hj
        exact hj
      · omega
      · omega
      · intro A2 c2 w3 ho2 f2 hA2
        have hB3 := HB1.out.fr f2 (fun e => by have := HA1.out _ e; omega)
        have b3 := hB3.cell 1
        have z3 := hB3.frozen 1
        simp only [List.getElem?_toArray, List.getElem?_cons_zero, List.getElem?_cons_succ] at b3
        rw [← HN.out] at b3
        have hlen : (noT t L).length = p + (n - (p + 1)) := by rw [HL.out, List.length_append, List.length_take, List.length_drop]; have := HN.out; omega
        have hA2' : ∀ g', A2 = some ⟨g', 0, none⟩ → w.heap.size ≤ g' := fun g' e => by
          rcases hA2 with h | ⟨g2, h, h2⟩
          · exact HA1.out g' (by rw [← h, e])
          · rw [h, Option.some.injEq, Addr.mk.injEq] at e; have := HF1.out.size; omega
        have hfin : RCan w q now F (noT t L) (.returned (.bool true)) (w3.setCell ⟨q, 1, none⟩ (.slice A2 (p + (n - (p + 1))) c2)) := by
          have f : Fr (fun i => i = q) w3 (w3.setCell ⟨q, 1, none⟩ (.slice A2 (p + (n - (p + 1))) c2)) := (Fr.refl (fun i => i = q) _).setCell (.inl rfl) _
          refine ⟨rfl, ⟨A2, c2, by rw [hlen]; exact hB3.set_ 1 _, ?_, .inl HFQ.out, fun g' e => .inr (hA2' g' e)⟩, ?_⟩
          · rw [hlen, HL.out, rcs_append]
            exact ho2.fr f fun g' e h => by have := hA2' g' e; omega
          · exact (((HF1.out.mono fun _ _ h => h.elim).step f2 fun i hi => .inr (HA1.out i hi))).setCell (.inl HFQ.out) _
        have HFI := Lib.hid hfin
        clear hfin ho2 f2 hA2 hA2' hB3 hlen b1'
        go_wp2_with fail
        go_ret
        exact HFI.out
end
end Go.Proofs.Ytgmeebpgncenmaa
