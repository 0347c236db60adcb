/- The document's own arena: what is free. -/
import Derived.Test.YtncjhfofmeamdaaRs
import Derived.Test.YtncjhfofmeamdaaApm
namespace Go.Proofs.Ytncjhfofmeamdaa
open Go.RowKit

/-- The free blocks within a block, from the first one on. -/
def fre (T : Tk) : Nat → Nat → Tk
  | 0, x => if T.countP (hit x 0) = 0 then [(x, 0)] else []
  | o + 1, x => if T.countP (hit x (o + 1)) = 0 then [(x, o + 1)] else if T.any (cov x (o + 1)) = true then [] else fre T o x ++ fre T o (x + 2 ^ o)
theorem fre_clr {T : Tk} {o x : Nat} (h : T.countP (hit x o) = 0) : fre T o x = [(x, o)] := by
  cases o <;> simp [fre, h]
theorem cov_none {T : Tk} {x o : Nat} (h : T.any (cov x o) = true) {p : Nat × Nat} (hp : In x o p.1 p.2) : ¬ clr T p.1 p.2 := by
  obtain ⟨q, hq, hc⟩ := List.any_eq_true.1 h
  unfold cov at hc
  rw [Bool.and_eq_true, decide_eq_true_eq, decide_eq_true_eq] at hc
  intro k
  have h1 := k q hq
  have h2 := p2 p.2
  have h3 := p2 q.2
  unfold Dis at h1
  unfold In at hp
  omega
theorem fre_spec (T : Tk) : ∀ (o x : Nat), Dy x o → (∀ p, p ∈ fre T o x ↔ In x o p.1 p.2 ∧ Dy p.1 p.2 ∧ clr T p.1 p.2 ∧ (p = (x, o) ∨ ¬ clr T (par p.1 p.2) (p.2 + 1))) ∧ (fre T o x).Pairwise (fun p q => p.1 < q.1) ∧ (fre T o x).length ≤ 2 ^ o := by
  intro o
  induction o with
  | zero =>
    intro x hx
    by_cases h : T.countP (hit x 0) = 0
    · rw [fre_clr h]
      refine ⟨fun p => ?_, by simp, by simp⟩
      rw [List.mem_singleton]
      constructor
      · rintro rfl
        exact ⟨In.refl _ _, hx, hit_none.1 h, .inl rfl⟩
      · rintro ⟨h1, _, _, _⟩
        have := h1.le
        unfold In at h1
        obtain ⟨a, k⟩ := p
        simp only at *
        obtain rfl : k = 0 := by omega
        rw [Prod.mk.injEq]
        omega
    · have e : fre T 0 x = [] := by simp [fre, h]
      rw [e]
      refine ⟨fun p => ⟨fun h => (by cases h), ?_⟩, List.Pairwise.nil, by simp⟩
      rintro ⟨h1, _, h3, _⟩
      exfalso
      have := h1.le
      unfold In at h1
      obtain ⟨a, k⟩ := p
      simp only at *
      obtain rfl : k = 0 := by omega
      obtain rfl : a = x := by omega
      exact h (hit_none.2 h3)
  | succ o ih =>
    intro x hx
    by_cases h : T.countP (hit x (o + 1)) = 0
    · rw [fre_clr h]
      refine ⟨fun p => ?_, by simp, by have := p2 (o + 1); simp; omega⟩
      rw [List.mem_singleton]
      constructor
      · rintro rfl
        exact ⟨In.refl _ _, hx, hit_none.1 h, .inl rfl⟩
      · rintro ⟨h1, h2, _, h4⟩
        rcases h4 with h4 | h4
        · exact h4
        · rcases Nat.lt_or_ge p.2 (o + 1) with h5 | h5
          · exact absurd (clr_in (hit_none.1 h) (sub_par h2 hx h5 h1)) h4
          · have h6 := h1.le
            obtain ⟨a, k⟩ := p
            simp only at *
            obtain rfl : k = o + 1 := by omega
            unfold In at h1
            rw [Prod.mk.injEq]
            omega
    · by_cases hc : T.any (cov x (o + 1)) = true
      · have e : fre T (o + 1) x = [] := by simp only [fre, if_neg h, if_pos hc]
        rw [e]
        refine ⟨fun p => ⟨fun h => (by cases h), ?_⟩, List.Pairwise.nil, by simp⟩
        rintro ⟨h1, _, h3, _⟩
        exact absurd h3 (cov_none hc h1)
      · have e : fre T (o + 1) x = fre T o x ++ fre T o (x + 2 ^ o) := by simp only [fre, if_neg h, if_neg hc]
        rw [e]
        have hps := p2s o
        have hx0 : Dy x o := hx.le (Nat.le_succ o)
        have hx1 : Dy (x + 2 ^ o) o := (Nat.dvd_add_right hx0).2 (Nat.dvd_refl _)
        obtain ⟨m0, s0, l0⟩ := ih x hx0
        obtain ⟨m1, s1, l1⟩ := ih (x + 2 ^ o) hx1
        have hn : ¬ clr T x (o + 1) := fun k => h (hit_none.2 k)
        have hpx0 : par x o = x := by
          obtain ⟨v, hv⟩ := hx
          unfold par
          rw [hv, Nat.mul_div_cancel_left _ (p2 (o + 1)), Nat.mul_comm]
        have hpx1 : par (x + 2 ^ o) o = x := by
          obtain ⟨v, hv⟩ := hx
          unfold par
          rw [hv, Nat.mul_add_div (p2 (o + 1)), Nat.div_eq_of_lt (by have := p2 o; omega), Nat.add_zero, Nat.mul_comm]
        refine ⟨fun p => ?_, ?_, by rw [List.length_append]; omega⟩
        · rw [List.mem_append, m0 p, m1 p]
          constructor
          · rintro (⟨h1, h2, h3, h4⟩ | ⟨h1, h2, h3, h4⟩)
            · refine ⟨by unfold In at *; omega, h2, h3, .inr ?_⟩
              rcases h4 with rfl | h4
              · show ¬ clr T (par x o) (o + 1)
                rwa [hpx0]
              · exact h4
            · refine ⟨by unfold In at *; omega, h2, h3, .inr ?_⟩
              rcases h4 with rfl | h4
              · show ¬ clr T (par (x + 2 ^ o) o) (o + 1)
                rwa [hpx1]
              · exact h4
          · rintro ⟨h1, h2, h3, h4⟩
            have h5 : p ≠ (x, o + 1) := fun e => by subst e; exact hn h3
            have h6 : p.2 ≤ o := by
              rcases Nat.lt_or_ge o p.2 with h6 | h6
              · exfalso
                have h7 := h1.le
                obtain ⟨a, k⟩ := p
                simp only at *
                obtain rfl : k = o + 1 := by omega
                unfold In at h1
                exact h5 (by rw [Prod.mk.injEq]; omega)
              · exact h6
            have h7 : ¬ clr T (par p.1 p.2) (p.2 + 1) := h4.resolve_left h5
            rcases dy_cases hx0 h2 h6 with h8 | h8
            · exact .inl ⟨h8, h2, h3, .inr h7⟩
            · refine .inr ⟨?_, h2, h3, .inr h7⟩
              have := p2 p.2
              unfold In Dis at *
              omega
        · rw [List.pairwise_append]
          refine ⟨s0, s1, fun p hp q hq => ?_⟩
          have h1 := ((m0 p).1 hp).1
          have h2 := ((m1 q).1 hq).1
          have := p2 p.2
          unfold In at h1 h2
          omega
theorem fre_frb {n : Nat} {T : Tk} {p : Nat × Nat} : p ∈ fre T n 0 ↔ Frb n T p.2 p.1 := by
  rw [(fre_spec T n 0 (Dy.zero n)).1 p]
  unfold Frb
  constructor
  · rintro ⟨h1, h2, h3, h4⟩
    have h5 := h1.le
    unfold In at h1
    refine ⟨h5, h2, by omega, h3, ?_⟩
    rcases h4 with rfl | h4
    · exact .inl rfl
    · exact .inr h4
  · rintro ⟨h1, h2, h3, h4, h5⟩
    refine ⟨⟨Nat.zero_le _, by omega⟩, h2, h4, ?_⟩
    rcases h5 with h5 | h5
    · left
      obtain ⟨a, k⟩ := p
      simp only at *
      subst h5
      rw [Prod.mk.injEq]
      omega
    · exact .inr h5

/-- A list of blocks, in memory of its own. -/
def FreE (w : World) (l : Tk) (e : Ending) (w' : World) : Prop :=
  ∃ (A : Option Addr) (c : Nat), e = .returned (.slice A l.length c) ∧ Own w' 56 2 A l.length c (bls l) ∧ (∀ g, A = some ⟨g, 0, none⟩ → w.heap.size ≤ g) ∧ Fr (fun _ => False) w w'
theorem own_one (w : World) (x o : Nat) : Own (w.alloc (.cells #[.int .i64 (x : Int), .int .i64 (o : Int)] 56)) 56 2 (some ⟨w.heap.size, 0, none⟩) 1 1 (bls [(x, o)]) :=
  ⟨rfl, .inr ⟨w.heap.size, _, rfl, Blk.new w 56 _, Nat.le_refl _, by decide, rfl, rfl⟩⟩
set_option maxRecDepth 100000 in
set_option maxHeartbeats 3200000 in
theorem fre_any {b n : Nat} {F : Nat → Prop} {L : Tk} (hT : TOk n L) (hn : n ≤ 16) (hlen : L.length ≤ 65536) : ∀ (o x : Nat), x + 2 ^ o ≤ 65536 → Dy x o → ∀ (w : World), RAr w F b n L →
    Calls Try.prog 31 #[.pointer (some ⟨b, 0, none⟩), .int .i64 (x : Int), .int .i64 (o : Int)] w (FreE w (fre L o x)) := by
  intro o
  induction o with
  | zero =>
    intro x hx hdx w h
    have H := Lib.hid h
    have hx16 : x ≤ 65536 := by omega
    go_enter Try.func31, Try.ntmps31
    go_wp2_with fail
    refine (within_any H.out hT hn hlen x 0 hx16 (by omega)).mono ?_
    rintro e w1 ⟨rfl, hF⟩
    have F1 := Lib.hid hF
    clear hF
    by_cases h0 : L.countP (hit x 0) = 0
    · have HE := Lib.hid (fre_clr h0)
      rw [h0]
      clear h0 h
      go_wp2_with fail
      go_ret
      refine ⟨_, _, by rw [HE.out]; rfl, by rw [HE.out]; exact own_one w1 x 0, fun g e => ?_, F1.out.alloc _⟩
      injection e with e
      injection e with e
      rw [← e]
      exact F1.out.size
    · have HE := Lib.hid (show fre L 0 x = [] by simp [fre, h0])
      have h0I : ((L.countP (hit x 0) : Int) == 0) = false := by simpa using h0
      clear h0 h
      go_wp2_with fail
      go_ret
      refine ⟨none, 0, by rw [HE.out]; rfl, by rw [HE.out]; exact Own.nil_ _ _ _, nofun, F1.out⟩
  | succ o ih =>
    intro x hx hdx w h
    have H := Lib.hid h
    have hx16 : x ≤ 65536 := by have := p2 (o + 1); omega
    have hps := p2s o
    have ho16 : o + 1 ≤ 16 := by
      rcases Nat.lt_or_ge 16 (o + 1) with h1 | h1
      · have := p2le (show 17 ≤ o + 1 from h1)
        have e17 : (2 : Nat) ^ 17 = 131072 := rfl
        omega
      · exact h1
    have HX2 := Lib.hid (show x + 2 ^ o + 2 ^ o ≤ 65536 by omega)
    have HD1 := Lib.hid (show Dy x o from hdx.le (Nat.le_succ o))
    have HD2 := Lib.hid (show Dy (x + 2 ^ o) o from (Nat.dvd_add_right (hdx.le (Nat.le_succ o))).2 (Nat.dvd_refl _))
    have HO := Lib.hid (fun x => (fre_spec L o x))
    have HIH := Lib.hid ih
    obtain ⟨k, hk⟩ : ∃ k, k = o + 1 := ⟨_, rfl⟩
    have HK := Lib.hid (show (k : Int) - 1 = (o : Int) by omega)
    have hk1 : (1 : Int) ≤ (k : Int) := by omega
    have hk16 : (k : Int) ≤ 16 := by omega
    have hkz : ((k : Int) == 0) = false := by simp; omega
    have HF := Lib.hid (show fre L k x = if L.countP (hit x k) = 0 then [(x, k)] else if L.any (cov x k) = true then [] else fre L o x ++ fre L o (x + 2 ^ o) by rw [hk]; rfl)
    rw [← hk] at ho16 ⊢
    have HDX := Lib.hid hdx
    clear hk hdx hps h hx ih
    go_enter Try.func31, Try.ntmps31
    go_wp2_with fail
    refine (within_any H.out hT hn hlen x k hx16 ho16).mono ?_
    rintro e w1 ⟨rfl, hF⟩
    have F1 := Lib.hid hF
    clear hF
    by_cases h0 : L.countP (hit x k) = 0
    · have HE := Lib.hid (show fre L k x = [(x, k)] by rw [HF.out, if_pos h0])
      rw [h0]
      clear h0
      go_wp2_with fail
      go_ret
      refine ⟨_, _, by rw [HE.out]; rfl, by rw [HE.out]; exact own_one w1 x k, fun g e => ?_, F1.out.alloc _⟩
      injection e with e
      injection e with e
      rw [← e]
      exact F1.out.size
    · have h0I : ((L.countP (hit x k) : Int) == 0) = false := by simpa using h0
      have H0 := Lib.hid h0
      clear h0
      go_wp2_with fail
      refine (cover_any (H.out.fr0 F1.out) hT hn hlen x k hx16 ho16).mono ?_
      rintro e w2 ⟨rfl, hF⟩
      have F2 := Lib.hid (F1.out.trans hF)
      clear hF
      by_cases hc : L.any (cov x k) = true
      · have HE := Lib.hid (show fre L k x = [] by rw [HF.out, if_neg H0.out, if_pos hc])
        rw [hc]
        clear hc
        go_wp2_with fail
        go_ret
        refine ⟨none, 0, by rw [HE.out]; rfl, by rw [HE.out]; exact Own.nil_ _ _ _, nofun, F2.out⟩
      · have HE := Lib.hid (show fre L k x = fre L o x ++ fre L o (x + 2 ^ o) by rw [HF.out, if_neg H0.out, if_neg hc])
        rw [Bool.eq_false_iff.2 hc]
        clear hc
        go_wp2_with fail
        rw [HK.out]
        refine (HIH.out x (by have := HX2.out; omega) HD1.out w2 (H.out.fr0 F2.out)).mono ?_
        rintro e w3 ⟨A1, c1, rfl, hO1, hg1, hF⟩
        have F3 := Lib.hid (F2.out.trans hF)
        have O1 := Lib.hid hO1
        have G1 := Lib.hid (show ∀ g, A1 = some ⟨g, 0, none⟩ → w.heap.size ≤ g from fun g e => Nat.le_trans F2.out.size (hg1 g e))
        clear hF hO1 hg1
        go_wp2_with fail
        rw [HK.out]
        refine (size_any w3 o (by have := HK.out; omega)).mono ?_
        rintro e w4 ⟨rfl, rfl⟩
        have hs1 : (x : Int) + (2 : Int) ^ o ≤ 65536 := by rw [← powI]; have := HX2.out; omega
        have hs0 : (0 : Int) ≤ (2 : Int) ^ o := by rw [← powI]; exact Int.natCast_nonneg _
        have HXO := Lib.hid (show (x : Int) + (2 : Int) ^ o = ((x + 2 ^ o : Nat) : Int) by rw [← powI]; omega)
        have HL1 := Lib.hid (show (fre L o x).length ≤ 65536 by have h1 := (HO.out x HD1.out).2.2; have h2 := HX2.out; omega)
        have HL2 := Lib.hid (show (fre L o (x + 2 ^ o)).length ≤ 65536 by have h1 := (HO.out _ HD2.out).2.2; have h2 := HX2.out; omega)
        have HIH2 := Lib.hid (fun w4 => HIH.out (x + 2 ^ o) (by have := HX2.out; omega) HD2.out w4)
        obtain ⟨l1, hl1⟩ : ∃ l1, l1 = fre L o x := ⟨_, rfl⟩
        obtain ⟨l2, hl2⟩ : ∃ l2, l2 = fre L o (x + 2 ^ o) := ⟨_, rfl⟩
        rw [← hl1] at O1 HL1 HE ⊢
        rw [← hl2] at HL2 HE HIH2
        clear hl1 hl2
        rw [powI]
        go_wp2_with fail
        rw [HK.out, HXO.out]
        refine (HIH2.out w3 (H.out.fr0 F3.out)).mono ?_
        rintro e w5 ⟨A2, c2, rfl, hO2, hg2, hF⟩
        have F5 := Lib.hid (F3.out.trans hF)
        have O5 := Lib.hid (O1.out.fr hF fun _ _ => id)
        have O2 := Lib.hid hO2
        have HNE := Lib.hid (show ∀ g, A1 = some ⟨g, 0, none⟩ → A2 ≠ some ⟨g, 0, none⟩ from fun g e1 e2 => by
          have := O1.out.lt e1
          have := hg2 g e2
          omega)
        have G2 := Lib.hid (show w.heap.size ≤ w3.heap.size from F3.out.size)
        have G5 := Lib.hid (show w.heap.size ≤ w5.heap.size from F5.out.size)
        clear hF hO2 hg2 hs1 hs0
        obtain ⟨i0, hi, hz0, hz1, hz2⟩ := info_parts info56
        cases A2 with
        | none =>
          have hl0 : l2 = [] := by
            rcases O2.out.2 with ⟨_, h, _⟩ | ⟨g, _, h, _⟩
            · exact List.length_eq_zero_iff.1 h
            · cases h
          have hc0 : c2 = 0 := by
            rcases O2.out.2 with ⟨_, _, h⟩ | ⟨g, _, h, _⟩
            · exact h
            · cases h
          subst hl0 hc0
          go_wp2_with (at_builtin; refine wpList_append0 w5 rfl (.tmp 30) (.tmp 39) 52 rfl 56 i0 Try.underlying52 hi A1 l1.length c1 (bls l1) rfl O5.out rfl ?_)
          go_wp2_with fail
          go_ret
          refine ⟨A1, c1, by rw [HE.out, List.append_nil]; rfl, by rw [HE.out, List.append_nil]; exact O5.out, G1.out, F5.out⟩
        | some ad =>
          obtain ⟨g2, hg2⟩ : ∃ g2, ad = ⟨g2, 0, none⟩ := by
            rcases O2.out.2 with ⟨h, _⟩ | ⟨g, _, h, _⟩
            · cases h
            · exact ⟨g, Option.some.inj h⟩
          subst hg2
          go_wp2_with (at_builtin; refine wpList_appendM w5 rfl (.tmp 30) (.tmp 39) 52 rfl 56 i0 _ 2 16 Try.underlying52 hi hz0 hz1 hz2 rfl (by omega) A1 l1.length c1 (bls l1) rfl O5.out ⟨g2, 0, none⟩ l2.length c2 (bls l2) rfl (bls_length l2) ?_ (bls_one_cell _) ?_ ?_ ?_)
          · intro j u hj
            have hjl := (List.getElem?_eq_some_iff.1 hj).1
            rw [bls_length] at hjl
            have := O2.out.cell j hjl
            rw [hj] at this
            unfold Addr.add
            by_cases h0 : j = 0
            · subst h0; simpa using this
            · rw [if_neg h0]; simpa using this
          · have := HL1.out; have := HL2.out; omega
          · have := HL1.out; have := HL2.out; omega
          · intro A' c' w' hO' hF' hA'
            have HO' := Lib.hid hO'
            have HF' := Lib.hid (F5.out.step hF' fun i hi => .inr (G1.out i hi))
            have HA' := Lib.hid (show ∀ g, A' = some ⟨g, 0, none⟩ → w.heap.size ≤ g from fun g e => by
              rcases hA' with h | ⟨g3, h, h3⟩
              · exact G1.out g (by rw [← h, e])
              · rw [h] at e
                injection e with e
                injection e with e
                rw [← e]
                exact Nat.le_trans G5.out h3)
            clear hO' hF' hA'
            go_wp2_with fail
            go_ret
            refine ⟨A', c', by rw [HE.out, List.length_append]; rfl, by rw [HE.out, List.length_append, bls_append]; exact HO'.out, HA'.out, HF'.out⟩
end Go.Proofs.Ytncjhfofmeamdaa
