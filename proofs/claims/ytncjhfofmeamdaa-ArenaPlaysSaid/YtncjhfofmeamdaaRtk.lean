/- The document's own arena: Take. -/
import Derived.Test.YtncjhfofmeamdaaRgv
namespace Go.Proofs.Ytncjhfofmeamdaa
open Go.RowKit

/-- The place of the first of the least order that will do, among the first j; -1: none. -/
def Bst (l : Tk) (o j : Nat) (v : Int) : Prop :=
  (v = -1 ∧ ∀ i p, i < j → l[i]? = some p → p.2 < o) ∨
  ∃ bi y k : Nat, v = bi ∧ bi < j ∧ l[bi]? = some (y, k) ∧ o ≤ k ∧ ∀ i p, i < j → l[i]? = some p → o ≤ p.2 → k ≤ p.2 ∧ (i < bi → k < p.2)
theorem Bst.skip {l : Tk} {o j : Nat} {v : Int} (h : Bst l o j v) {y k : Nat} (hp : l[j]? = some (y, k)) (hk : k < o) : Bst l o (j + 1) v := by
  rcases h with ⟨rfl, h⟩ | ⟨bi, y', k', rfl, h1, h2, h3, h4⟩
  · refine .inl ⟨rfl, fun i p hi hq => ?_⟩
    rcases Nat.lt_or_ge i j with h1 | h1
    · exact h i p h1 hq
    · obtain rfl : i = j := by omega
      rw [hp] at hq; injection hq with hq; subst hq; exact hk
  · refine .inr ⟨bi, y', k', rfl, by omega, h2, h3, fun i p hi hq ho => ?_⟩
    rcases Nat.lt_or_ge i j with h5 | h5
    · exact h4 i p h5 hq ho
    · obtain rfl : i = j := by omega
      rw [hp] at hq; injection hq with hq; subst hq
      simp only at ho; omega
theorem Bst.first {l : Tk} {o j : Nat} (h : Bst l o j (-1)) {y k : Nat} (hp : l[j]? = some (y, k)) (hk : o ≤ k) : Bst l o (j + 1) (j : Int) := by
  rcases h with ⟨_, h⟩ | ⟨bi, y', k', e, _⟩
  · refine .inr ⟨j, y, k, rfl, by omega, hp, hk, fun i p hi hq ho => ?_⟩
    rcases Nat.lt_or_ge i j with h1 | h1
    · have := h i p h1 hq; omega
    · obtain rfl : i = j := by omega
      rw [hp] at hq; injection hq with hq; subst hq; exact ⟨Nat.le_refl _, fun h => by omega⟩
  · omega
theorem Bst.better {l : Tk} {o j bi y' k' : Nat} (h : Bst l o j (bi : Int)) (hb : l[bi]? = some (y', k')) {y k : Nat} (hp : l[j]? = some (y, k)) (hk : o ≤ k) (hlt : k < k') : Bst l o (j + 1) (j : Int) := by
  rcases h with ⟨e, _⟩ | ⟨bi', y2, k2, e, h1, h2, h3, h4⟩
  · omega
  · obtain rfl : bi = bi' := by omega
    rw [hb] at h2; injection h2 with h2; injection h2 with h2 h2'; subst h2 h2'
    refine .inr ⟨j, y, k, rfl, by omega, hp, hk, fun i p hi hq ho => ?_⟩
    rcases Nat.lt_or_ge i j with h5 | h5
    · have := h4 i p h5 hq ho; omega
    · obtain rfl : i = j := by omega
      rw [hp] at hq; injection hq with hq; subst hq; exact ⟨Nat.le_refl _, fun h => by omega⟩
theorem Bst.keep {l : Tk} {o j bi y' k' : Nat} (h : Bst l o j (bi : Int)) (hb : l[bi]? = some (y', k')) {y k : Nat} (hp : l[j]? = some (y, k)) (hge : k' ≤ k) : Bst l o (j + 1) (bi : Int) := by
  rcases h with ⟨e, _⟩ | ⟨bi', y2, k2, e, h1, h2, h3, h4⟩
  · omega
  · obtain rfl : bi = bi' := by omega
    rw [hb] at h2; injection h2 with h2; injection h2 with h2 h2'; subst h2 h2'
    refine .inr ⟨bi, y', k', rfl, by omega, hb, h3, fun i p hi hq ho => ?_⟩
    rcases Nat.lt_or_ge i j with h5 | h5
    · exact h4 i p h5 hq ho
    · obtain rfl : i = j := by omega
      rw [hp] at hq; injection hq with hq; subst hq; exact ⟨hge, fun h => by omega⟩
section
variable {n o : Nat} {T l : Tk}
theorem Bst.none (h : Bst l o l.length (-1)) (hm : ∀ p, p ∈ l ↔ Frb n T p.2 p.1) : NoFit n T o := by
  rcases h with ⟨_, h⟩ | ⟨bi, y', k', e, _⟩
  · intro j h1 h2 x hx
    obtain ⟨i, hi, e⟩ := List.getElem_of_mem ((hm (x, j)).2 hx)
    have := h i (x, j) hi (by rw [List.getElem?_eq_getElem hi, e])
    simp only at this; omega
  · omega
theorem Bst.some_ {bi : Nat} (h : Bst l o l.length (bi : Int)) (hm : ∀ p, p ∈ l ↔ Frb n T p.2 p.1) (hs : l.Pairwise fun p q => p.1 < q.1) : ∃ y k, l[bi]? = some (y, k) ∧ Fit n T o k y := by
  rcases h with ⟨e, _⟩ | ⟨bi', y, k, e, h1, h2, h3, h4⟩
  · omega
  · obtain rfl : bi = bi' := by omega
    have hf := (hm (y, k)).1 (List.mem_of_getElem? h2)
    refine ⟨y, k, h2, h3, hf.1, fun j hj1 hj2 x hx => ?_, hf, fun x hx => ?_⟩
    · obtain ⟨i, hi, e⟩ := List.getElem_of_mem ((hm (x, j)).2 hx)
      have := h4 i (x, j) hi (by rw [List.getElem?_eq_getElem hi, e]) hj1
      simp only at this; omega
    · obtain ⟨i, hi, e9⟩ := List.getElem_of_mem ((hm (x, k)).2 hx)
      have := h4 i (x, k) hi (by rw [List.getElem?_eq_getElem hi, e9]) h3
      simp only at this
      obtain ⟨hb1, hb2⟩ := List.getElem?_eq_some_iff.1 h2
      rcases Nat.lt_trichotomy i bi with h5 | h5 | h5
      · have := this.2 h5; omega
      · subst h5
        rw [e9] at hb2
        injection hb2 with hb2
        omega
      · have := List.pairwise_iff_getElem.1 hs bi i hb1 hi h5
        rw [e9, hb2] at this
        exact Nat.le_of_lt this
end
/-- One more, in its place. -/
theorem ins_ok {L : Tk} (hs : L.Pairwise fun p q => p.1 < q.1) {a o k : Nat} (hk : k ≤ L.length) (hlt : ∀ i p, i < k → L[i]? = some p → p.1 < a) (hge : ∀ p, L[k]? = some p → a ≤ p.1) (hn : ∀ p, p ∈ L → p.1 ≠ a) :
    (L.take k ++ [(a, o)] ++ L.drop k).Pairwise (fun p q => p.1 < q.1) ∧ Sm (L ++ [(a, o)]) (L.take k ++ [(a, o)] ++ L.drop k) := by
  have h1 : ∀ p, p ∈ L.take k → p.1 < a := fun p hp => by
    obtain ⟨i, hi, rfl⟩ := List.getElem_of_mem hp
    rw [List.length_take] at hi
    rw [List.getElem_take]
    exact hlt i _ (by omega) (List.getElem?_eq_getElem (by omega))
  have h2 : ∀ p, p ∈ L.drop k → a < p.1 := fun p hp => by
    obtain ⟨i, hi, rfl⟩ := List.getElem_of_mem hp
    rw [List.length_drop] at hi
    rw [List.getElem_drop]
    have h3 := hge _ (List.getElem?_eq_getElem (show k < L.length by omega))
    have h4 := hn _ (List.getElem_mem (show k + i < L.length by omega))
    rcases Nat.eq_zero_or_pos i with h5 | h5
    · subst h5
      simp only [Nat.add_zero] at h4 ⊢
      omega
    · have := List.pairwise_iff_getElem.1 hs k (k + i) (by omega) (by omega) (by omega)
      omega
  refine ⟨?_, fun p => ?_⟩
  · rw [List.pairwise_append, List.pairwise_append]
    refine ⟨⟨hs.sublist (List.take_sublist _ _), by simp, fun p hp q hq => ?_⟩, hs.sublist (List.drop_sublist _ _), fun p hp q hq => ?_⟩
    · obtain rfl : q = (a, o) := by simpa using hq
      exact h1 p hp
    · rcases List.mem_append.1 hp with hp | hp
      · have := h1 p hp
        have := h2 q hq
        omega
      · obtain rfl : p = (a, o) := by simpa using hp
        exact h2 q hq
  · have e : p ∈ L ↔ p ∈ L.take k ∨ p ∈ L.drop k := by
      conv => lhs; rw [← List.take_append_drop k L]
      exact List.mem_append
    rw [List.mem_append, List.mem_append, List.mem_append, e]
    constructor
    · rintro ((h | h) | h)
      · exact .inl (.inl h)
      · exact .inr h
      · exact .inl (.inr h)
    · rintro ((h | h) | h)
      · exact .inl (.inl h)
      · exact .inr h
      · exact .inl (.inr h)
/-- What the document's Take answers, and leaves. -/
def RTk (w : World) (F : Nat → Prop) (b n : Nat) (L : Tk) (x : Int) (e : Ending) (w' : World) : Prop :=
  ∃ (r c : Int) (U L' : Tk), e = .returned (.tuple #[.int .i64 r, .int .i64 c]) ∧ TakeR n L x r c U ∧ Sm U L' ∧ L'.Pairwise (fun p q => p.1 < q.1) ∧ RArE w F b n L' w'
theorem RArE.same {w w' : World} {F : Nat → Prop} {b n : Nat} {L : Tk} (h : RAr w F b n L) (f : Fr (fun _ => False) w w') : RArE w F b n L w' := ⟨(h.fr0 f).mono fun _ _ => .inl, f.mono fun _ _ h => h.elim⟩

section
variable {w : World} {b n : Nat} {F : Nat → Prop} {L : Tk}
/-- What is left behind the choice: one is put in. -/
def RIns (w : World) (F : Nat → Prop) (b n : Nat) (L : Tk) (a o : Nat) (w' : World) : Prop := ∃ L' : Tk, L'.Pairwise (fun p q => p.1 < q.1) ∧ Sm (L ++ [(a, o)]) L' ∧ RArE w F b n L' w'
set_option maxRecDepth 100000 in
set_option maxHeartbeats 6400000 in
theorem rtake_any (h : RAr w F b n L) (hT : TOk n L) (hs : L.Pairwise fun p q => p.1 < q.1) (hlen : L.length ≤ 65536) (hn : n ≤ 16) (x : Int) :
    Calls Try.prog 16 #[.pointer (some ⟨b, 0, none⟩), .int .i64 x] w (RTk w F b n L x) := by
  have H := Lib.hid h
  have HT := Lib.hid hT
  have HS := Lib.hid hs
  have HPn := Lib.hid (pow16 hn)
  obtain ⟨A, c, hB, hO, hFb, hFA⟩ := h
  have b0 := hB.cell 0
  simp only [List.getElem?_toArray, List.getElem?_cons_zero] at b0
  clear hT hs hB hO hFb hFA
  by_cases hx1 : x < 0
  · have HR := Lib.hid (show RTk w F b n L x (.returned (.tuple #[.int .i64 0, .int .i64 1])) w from ⟨0, 1, L, L, rfl, .inl ⟨.inl hx1, rfl, rfl, rfl⟩, Sm.refl _, HS.out, RArE.same H.out (Fr.refl _ _)⟩)
    go_enter Try.func16, Try.ntmps16
    go_wp2_with fail
    go_ret2
    exact HR.out
  · by_cases hx2 : (n : Int) < x
    · have HR := Lib.hid (show RTk w F b n L x (.returned (.tuple #[.int .i64 0, .int .i64 1])) w from ⟨0, 1, L, L, rfl, .inl ⟨.inr hx2, rfl, rfl, rfl⟩, Sm.refl _, HS.out, RArE.same H.out (Fr.refl _ _)⟩)
      go_enter Try.func16, Try.ntmps16
      go_wp2_with fail
      go_ret2
      exact HR.out
    · obtain ⟨o, rfl⟩ : ∃ o : Nat, x = o := ⟨x.toNat, by omega⟩
      have HF := Lib.hid (fre_any HT.out hn hlen n 0 (by have := HPn.out; omega) (Dy.zero n) w H.out)
      have HM := Lib.hid (fun p => fre_frb (n := n) (T := L) (p := p))
      have HSP := Lib.hid ((fre_spec L n 0 (Dy.zero n)).2)
      have hon : o ≤ n := by omega
      go_enter Try.func16, Try.ntmps16
      go_wp2_with fail
      refine HF.out.mono ?_
      rintro e w1 ⟨A1, c1, rfl, hO1, _, hF1⟩
      have F1 := Lib.hid hF1
      have O1 := Lib.hid hO1
      obtain ⟨l, hl⟩ : ∃ l, l = fre L n 0 := ⟨_, rfl⟩
      rw [← hl] at O1 HM HSP ⊢
      have hl16 : l.length ≤ 65536 := by have := HSP.out.2; have := HPn.out; omega
      clear hF1 hO1 hl HF b0
      go_upto_block 0 with fail
      go_cut [7] (fun v wx => ∃ m, v = .int .i64 m ∧ Bst l o l.length m ∧ Fr (fun _ => False) w1 wx)
      case first =>
        go_wp2_with fail
        go_loopw [7, 8] (fun v i wr => ∃ (j : Nat) (m : Int), j ≤ l.length ∧ v = .int .i64 m ∧ i = .int .i64 (j : Int) ∧ Bst l o j m ∧ Fr (fun _ => False) w1 wr) (fun _ i _ => l.length + 1 - (intOf i).toNat)
        case atStart => exact ⟨0, -1, Nat.zero_le _, rfl, rfl, .inl ⟨rfl, fun i p h => by omega⟩, Fr.refl _ _⟩
        case round =>
          obtain ⟨j, m, hj, rfl, rfl, hb, hFr⟩ := hrel
          have HB := Lib.hid hb
          have F2 := Lib.hid hFr
          have O2 := Lib.hid (O1.out.fr hFr fun _ _ => id)
          have hj16 : (j : Int) ≤ 65536 := by omega
          clear hb hFr
          by_cases hjl : j < l.length
          · have hjI : (j : Int) < (l.length : Int) := by omega
            obtain ⟨y, k, hp⟩ : ∃ y k, l[j]? = some (y, k) := ⟨_, _, List.getElem?_eq_getElem hjl⟩
            obtain ⟨g, rfl⟩ := O1.out.some_ (by omega)
            have g1 := O2.out.cell (j * 2 + 1) (by omega)
            rw [(bls_cell l j (y, k) hp).2] at g1
            have HP := Lib.hid hp
            have HJ := Lib.hid hjl
            clear hp
            by_cases hok : o ≤ k
            · have hd1 : decide (o ≤ k) = true := by simpa using hok
              rcases HB.out with ⟨rfl, _⟩ | ⟨bi, y', k', rfl, hbi, hbp, _⟩
              · have HBB := Lib.hid (HB.out.first HP.out hok)
                clear hok
                go_wp2_with fail
                go_quiet (fail)
                clear hd1
                go_wp2_with fail
                go_roundw
                case rel => exact ⟨j + 1, (j : Int), HJ.out, by go_num, by go_num, HBB.out, F2.out.drewN _⟩
                case measure => simp [intOf]; omega
              · have g2 := O2.out.cell (bi * 2 + 1) (by omega)
                rw [(bls_cell l bi (y', k') hbp).2] at g2
                have hbI : (bi : Int) < (l.length : Int) := by omega
                have hb0 : decide ((bi : Int) < 0) = false := by simp
                by_cases hkk : k < k'
                · have HBB := Lib.hid (HB.out.better hbp HP.out hok hkk)
                  have hd2 : decide (k < k') = true := by simpa using hkk
                  clear hok hkk hbp
                  go_wp2_with fail
                  go_quiet (fail)
                  clear hd1
                  go_wp2_with fail
                  go_roundw
                  case rel => exact ⟨j + 1, (j : Int), HJ.out, by go_num, by go_num, HBB.out, F2.out.drewN _⟩
                  case measure => simp [intOf]; omega
                · have HBB := Lib.hid (HB.out.keep hbp HP.out (by omega))
                  have hd2 : decide (k < k') = false := by simpa using hkk
                  clear hok hkk hbp
                  go_wp2_with fail
                  go_quiet (fail)
                  clear hd1
                  go_wp2_with fail
                  go_roundw
                  case rel => exact ⟨j + 1, (bi : Int), HJ.out, by go_num, by go_num, HBB.out, F2.out.drewN _⟩
                  case measure => simp [intOf]; omega
            · have hd1 : decide (o ≤ k) = false := by simpa using hok
              have HBB := Lib.hid (HB.out.skip HP.out (by omega))
              clear hok
              go_wp2_with fail
              go_quiet (fail)
              clear hd1
              go_wp2_with fail
              go_roundw
              case rel => exact ⟨j + 1, m, HJ.out, by go_num, by go_num, HBB.out, F2.out.drewN _⟩
              case measure => simp [intOf]; omega
          · have hjI : ¬ (j : Int) < (l.length : Int) := by omega
            obtain rfl : j = l.length := by omega
            go_wp2_with fail
            go_meet
            exact ⟨m, rfl, HB.out, F2.out⟩
      case rest =>
        obtain ⟨m, rfl, hb, hFr⟩ := hcut
        have HB := Lib.hid hb
        have F2 := Lib.hid (F1.out.trans hFr)
        have O2 := Lib.hid (O1.out.fr hFr fun _ _ => id)
        clear hFr
        rcases hb with ⟨rfl, _⟩ | ⟨bi, y, k, rfl, hbi, hbp, _⟩
        · have HNF := Lib.hid (HB.out.none HM.out)
          go_wp2_with fail
          go_ret2
          exact ⟨0, 90, L, L, rfl, .inr ⟨o, rfl, hon, .inl ⟨HNF.out, rfl, rfl, rfl⟩⟩, Sm.refl _, HS.out, RArE.same H.out F2.out⟩
        · obtain ⟨y', k', hbp', hfit⟩ := HB.out.some_ HM.out HSP.out.1
          rw [hbp] at hbp'
          injection hbp' with e
          injection e with e1 e2
          subst e1 e2
          have HFIT := Lib.hid hfit
          obtain ⟨g, rfl⟩ := O2.out.some_ (by omega)
          have g0 := O2.out.cell (bi * 2) (by omega)
          rw [(bls_cell l bi (y, k) hbp).1] at g0
          have hbI : (bi : Int) < (l.length : Int) := by omega
          have H2 := Lib.hid (H.out.fr0 F2.out)
          clear hbp hfit HB HM HSP O1 F1
          go_upto_block 2 with fail
          have HY16 := Lib.hid (show y ≤ 65536 by have := HFIT.out.2.2.2.1.lt; have := HPn.out; omega)
          obtain ⟨A, c, hB, hO, hFb, hFA⟩ := H2.out
          have b1 := hB.cell 1
          have zb := hB.frozen 1
          simp only [List.getElem?_toArray, List.getElem?_cons_zero, List.getElem?_cons_succ] at b1
          have HB := Lib.hid hB
          have HO := Lib.hid hO
          have HFB := Lib.hid hFb
          have HFA := Lib.hid hFA
          have hbl := hB.lt
          have hcc := hO.len_le
          clear hB hO hFb hFA
          go_cut [10] (fun v wx => ∃ k : Nat, k ≤ L.length ∧ v = .int .i64 (k : Int) ∧ (∀ i p, i < k → L[i]? = some p → p.1 < y) ∧ (∀ p, L[k]? = some p → y ≤ p.1) ∧ wx = wc)
          case first =>
            go_wp2_with fail
            go_loop [10] (fun v => ∃ j : Nat, j ≤ L.length ∧ v = .int .i64 (j : Int) ∧ (∀ i p, i < j → L[i]? = some p → p.1 < y)) (fun v => L.length + 1 - (intOf v).toNat)
            case atStart => exact ⟨0, Nat.zero_le _, rfl, fun i p h => by omega⟩
            case round =>
              obtain ⟨j, hj, rfl, hlt⟩ := hrel
              have HLT := Lib.hid hlt
              have hj16 : (j : Int) ≤ 65536 := by omega
              clear hlt
              by_cases hjl : j < L.length
              · have hjI : (j : Int) < (L.length : Int) := by omega
                obtain ⟨y', k', hp⟩ : ∃ y' k', L[j]? = some (y', k') := ⟨_, _, List.getElem?_eq_getElem hjl⟩
                obtain ⟨g', rfl⟩ := HO.out.some_ (by omega)
                have g1 := HO.out.cell (j * 2) (by omega)
                rw [(bls_cell L j (y', k') hp).1] at g1
                have HP := Lib.hid hp
                have HJ := Lib.hid hjl
                clear hp
                by_cases hyy : y' < y
                · have hyI : (y' : Int) < (y : Int) := by omega
                  have HLT2 := Lib.hid (show ∀ i p, i < j + 1 → L[i]? = some p → p.1 < y from fun i p hi hq => by
                    rcases Nat.lt_or_ge i j with h5 | h5
                    · exact HLT.out i p h5 hq
                    · obtain rfl : i = j := by omega
                      have := HP.out
                      rw [this] at hq; injection hq with hq; subst hq; exact hyy)
                  clear hyy
                  go_wp2_with fail
                  go_round
                  case rel => exact ⟨j + 1, HJ.out, by go_num, HLT2.out⟩
                  case measure => simp [intOf]; omega
                · have hyI : ¬ (y' : Int) < (y : Int) := by omega
                  go_wp2_with fail
                  go_meet
                  exact ⟨j, hj, rfl, HLT.out, fun p hq => by
                    have := HP.out
                    rw [this] at hq; injection hq with hq; subst hq; show y ≤ y'; omega, rfl⟩
              · have hjI : ¬ (j : Int) < (L.length : Int) := by omega
                go_wp2_with fail
                go_meet
                exact ⟨j, hj, rfl, HLT.out, fun p hq => by
                  have := (List.getElem?_eq_some_iff.1 hq).1
                  omega, rfl⟩
          case rest =>
            obtain ⟨p, hp, rfl, hlt, hge, rfl⟩ := hcut
            have HINS := Lib.hid (ins_ok HS.out (o := o) hp hlt hge fun q hq e => by
              have h1 := HFIT.out.2.2.2.1.2.2.2.1 q hq
              have := p2 q.2
              have := p2 k
              unfold Dis at h1
              omega)
            have HFW := Lib.hid (F2.out)
            have HLL := Lib.hid (show (L.take p ++ [(y, o)] ++ L.drop p).length = p + 1 + (L.length - p) by rw [List.length_append, List.length_append, List.length_take, List.length_drop]; simp; omega)
            have hpI : (p : Int) ≤ (c : Int) := by omega
            have hp0 : (p : Int) ≤ 65536 := by omega
            obtain ⟨i0, hi, hz0, hz1, hz2⟩ := info_parts info56
            clear hlt hge g0 hbI O2
            -- what is left, whichever row came of the appends
            have HFIN := Lib.hid (show ∀ (w3 : World) (A3 : Option Addr) (c3 : Nat), Own w3 56 2 A3 (p + 1 + (L.length - p)) c3 (bls (L.take p) ++ bl (y, o) ++ bls (L.drop p)) → Fr (fun _ => False) wc w3 → (∀ g', A3 = some ⟨g', 0, none⟩ → wc.heap.size ≤ g') →
                RTk w F b n L (o : Int) (.returned (.tuple #[.int .i64 (y : Int), .int .i64 0])) (w3.setCell ⟨b, 1, none⟩ (.slice A3 (p + 1 + (L.length - p)) c3)) from fun w3 A3 c3 ho3 f3 hA3 => by
              have hB3 := HB.out.fr f3 id
              have f : Fr (fun i => i = b) w3 (w3.setCell ⟨b, 1, none⟩ (.slice A3 (p + 1 + (L.length - p)) c3)) := (Fr.refl (fun i => i = b) _).setCell (.inl rfl) _
              refine ⟨(y : Int), 0, _, _, rfl, .inr ⟨o, rfl, hon, .inr ⟨k, y, HFIT.out, rfl, rfl, rfl⟩⟩, HINS.out.2, HINS.out.1, ⟨A3, c3, by rw [HLL.out]; exact hB3.set_ 1 _, ?_, .inl HFB.out, fun g' e => .inr (Nat.le_trans HFW.out.size (hA3 g' e))⟩, ?_⟩
              · rw [HLL.out, bls_append, bls_append, bls_one]
                exact ho3.fr f fun g' e h => by have := hA3 g' e; omega
              · exact (((HFW.out.trans f3).mono fun _ _ h => h.elim)).setCell (.inl HFB.out) _)
            have HB3 := Lib.hid (show ∀ (w3 : World), Fr (fun _ => False) wc w3 → w3.cell? ⟨b, 1, none⟩ = some (.slice A L.length c) ∧ w3.frozen? ⟨b, 1, none⟩ = false from fun w3 f3 => by
              have hB3 := HB.out.fr f3 id
              have b3 := hB3.cell 1
              simp only [List.getElem?_toArray, List.getElem?_cons_zero, List.getElem?_cons_succ] at b3
              exact ⟨b3, hB3.frozen 1⟩)
            cases A with
            | none =>
              obtain ⟨h0, rfl⟩ : L = [] ∧ c = 0 := by
                rcases HO.out.2 with ⟨_, h1, h2⟩ | ⟨g, _, h, _⟩
                · exact ⟨List.length_eq_zero_iff.1 h1, h2⟩
                · cases h
              subst h0
              obtain rfl : p = 0 := by simpa using hp
              go_wp2_with (at_builtin; first | refine wpList_append0 wc rfl (.tmp 87) (.tmp 93) 52 rfl 56 i0 Try.underlying52 hi none 0 0 [] rfl (Own.nil_ _ _ 2) rfl ?_ | refine wpList_append1 wc rfl (.tmp 95) (.tmp 99) 52 rfl 56 i0 _ 2 16 Try.underlying52 hi hz0 hz1 hz2 rfl (by omega) none 0 0 [] rfl (Own.nil_ _ _ _) [.int .i64 (y : Int), .int .i64 (o : Int)] rfl rfl ?_ ?_ ?_ ?_)
              · exact bls_one_cell [(y, o)]
              · omega
              · omega
              · intro g3 c3 w3 ho3 f3 hA3
                have f3' : Fr (fun _ => False) wc w3 := f3.mono fun _ _ h => by cases h
                obtain ⟨b3, z3⟩ := HB3.out w3 f3'
                have hnew : wc.heap.size ≤ g3 := hA3
                have HFI := Lib.hid (HFIN.out w3 _ c3 ho3 f3' fun g' e => by injection e with e; injection e with e; omega)
                have HO3 := Lib.hid ho3
                clear ho3 f3 hA3 f3'
                go_wp2_with (at_builtin; refine wpList_append0 w3 rfl (.tmp 101) (.tmp 107) 52 rfl 56 i0 Try.underlying52 hi _ 1 c3 _ rfl HO3.out rfl ?_)
                go_wp2_with fail
                go_ret2
                exact HFI.out
            | some ad =>
              obtain ⟨g4, rfl⟩ : ∃ g4, ad = ⟨g4, 0, none⟩ := by
                rcases HO.out.2 with ⟨h, _⟩ | ⟨g, _, h, _⟩
                · cases h
                · exact ⟨g, Option.some.inj h⟩
              have hg4 := HO.out.lt rfl
              go_wp2_with (at_builtin; refine wpList_appendM wc rfl (.tmp 87) (.tmp 93) 52 rfl 56 i0 _ 2 16 Try.underlying52 hi hz0 hz1 hz2 rfl (by omega) none 0 0 [] rfl (Own.nil_ _ _ _) ⟨g4, 0, none⟩ p c (bls (L.take p)) rfl ?_ ?_ (bls_one_cell _) ?_ ?_ ?_)
              · rw [bls_length, List.length_take]; omega
              · intro q u hqu
                have h9 := HO.out.take_cells rfl (p := p) hp q u hqu
                first | exact h9 | rwa [addr_add, Nat.zero_add] at h9
              · omega
              · omega
              · intro A5 c5 w5 ho5 f5 hA5
                have f5' : Fr (fun _ => False) wc w5 := f5.mono fun _ _ h => by cases h
                obtain ⟨b5, z5⟩ := HB3.out w5 f5'
                have HO5 := Lib.hid ho5
                have HF5 := Lib.hid f5'
                have HN5 := Lib.hid (show ∀ g', A5 = some ⟨g', 0, none⟩ → wc.heap.size ≤ g' from fun g' e => by
                  rcases hA5 with h | ⟨g2, h, h2⟩
                  · rw [h] at e; cases e
                  · rw [h] at e; injection e with e; injection e with e; omega)
                clear ho5 f5 f5' hA5
                go_wp2_with (at_builtin; refine wpList_append1 w5 rfl (.tmp 95) (.tmp 99) 52 rfl 56 i0 _ 2 16 Try.underlying52 hi hz0 hz1 hz2 rfl (by omega) A5 p c5 _ rfl HO5.out [.int .i64 (y : Int), .int .i64 (o : Int)] rfl rfl ?_ ?_ ?_ ?_)
                · exact bls_one_cell [(y, o)]
                · omega
                · omega
                · intro g6 c6 w6 ho6 f6 hA6
                  have f6' : Fr (fun _ => False) wc w6 := HF5.out.step f6 fun i hi => .inr (HN5.out i hi)
                  obtain ⟨b6, z6⟩ := HB3.out w6 f6'
                  have HO6 := Lib.hid ho6
                  have HF6 := Lib.hid f6'
                  have hg6 : wc.heap.size ≤ g6 := by
                    rcases hA6 with h | h
                    · exact HN5.out g6 h
                    · exact Nat.le_trans HF5.out.size h
                  have HOS := Lib.hid (HO.out.fr f6' fun _ _ => id)
                  clear ho6 f6 f6' hA6 b5 z5
                  have HFIN2 := Lib.hid (show ∀ (w7 : World) (A7 : Option Addr) (c7 : Nat), Own w7 56 2 A7 (p + 1 + (L.length - p)) c7 (bls (L.take p) ++ .int .i64 (y : Int) :: .int .i64 (o : Int) :: bls (L.drop p)) → Fr (fun i => g6 = i) w6 w7 → (A7 = some ⟨g6, 0, none⟩ ∨ ∃ g', A7 = some ⟨g', 0, none⟩ ∧ w6.heap.size ≤ g') →
                      (w7.cell? ⟨b, 1, none⟩ = some (.slice (some ⟨g4, 0, none⟩) L.length c) ∧ w7.frozen? ⟨b, 1, none⟩ = false) ∧ RTk w F b n L (o : Int) (.returned (.tuple #[.int .i64 (y : Int), .int .i64 0])) (w7.setCell ⟨b, 1, none⟩ (.slice A7 (p + 1 + (L.length - p)) c7)) from fun w7 A7 c7 ho7 f7 hA7 => by
                    have f7' : Fr (fun _ => False) wc w7 := HF6.out.step f7 fun i hi => .inr (by omega)
                    refine ⟨HB3.out w7 f7', HFIN.out w7 A7 c7 (by rw [List.append_assoc]; exact ho7) f7' fun g' e => ?_⟩
                    rcases hA7 with h | ⟨g2, h, h2⟩
                    · rw [h] at e; injection e with e; injection e with e; omega
                    · rw [h] at e; injection e with e; injection e with e; have := HF6.out.size; omega)
                  by_cases hpc : c = p
                  · have hpcI : (c : Int) = (p : Int) := by omega
                    have HZ := Lib.hid (show L.length = p by omega)
                    go_wp2_with (at_builtin; refine wpList_appendM w6 rfl (.tmp 101) (.tmp 107) 52 rfl 56 i0 _ 2 16 Try.underlying52 hi hz0 hz1 hz2 rfl (by omega) (some ⟨g6, 0, none⟩) (p + 1) c6 _ rfl HO6.out ⟨g4, 0, none⟩ (L.length - p) 0 (bls (L.drop p)) rfl ?_ ?_ (bls_one_cell _) ?_ ?_ ?_)
                    · rw [bls_length, List.length_drop]
                    · intro q u hqu
                      have hjl := (List.getElem?_eq_some_iff.1 hqu).1
                      rw [bls_length, List.length_drop] at hjl
                      have := HZ.out
                      omega
                    · omega
                    · omega
                    · intro A7 c7 w7 ho7 f7 hA7
                      obtain ⟨⟨b7, z7⟩, hfi⟩ := HFIN2.out w7 A7 c7 ho7 f7 hA7
                      have HFI := Lib.hid hfi
                      clear ho7 f7 hA7 hfi
                      go_wp2_with fail
                      go_ret2
                      exact HFI.out
                  · go_wp2_with (at_builtin; refine wpList_appendM w6 rfl (.tmp 101) (.tmp 107) 52 rfl 56 i0 _ 2 16 Try.underlying52 hi hz0 hz1 hz2 rfl (by omega) (some ⟨g6, 0, none⟩) (p + 1) c6 _ rfl HO6.out ⟨g4, p * 2, none⟩ (L.length - p) (c - p) (bls (L.drop p)) rfl ?_ ?_ (bls_one_cell _) ?_ ?_ ?_)
                    · rw [bls_length, List.length_drop]
                    · intro q u hqu
                      have h9 := HOS.out.drop_cells rfl (p := p) q u hqu
                      first | exact h9 | rwa [addr_add] at h9
                    · omega
                    · omega
                    · intro A7 c7 w7 ho7 f7 hA7
                      obtain ⟨⟨b7, z7⟩, hfi⟩ := HFIN2.out w7 A7 c7 ho7 f7 hA7
                      have HFI := Lib.hid hfi
                      clear ho7 f7 hA7 hfi
                      go_wp2_with fail
                      go_ret2
                      exact HFI.out
end
end Go.Proofs.Ytncjhfofmeamdaa
