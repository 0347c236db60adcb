/- The document's own wheel. -/
import Derived.Test.YtgmeebpgncenmaaStp
import Derived.Test.YtgmeebpgncenmaaSame
namespace Go.Proofs.Ytgmeebpgncenmaa
open Go.RowKit

def Tm.rc (t : Tm) : List Value := [.int .i64 t.id, .int .i64 (t.due : Int)]
def rcs (l : List Tm) : List Value := l.flatMap Tm.rc
theorem rcs_length (l : List Tm) : (rcs l).length = l.length * 2 := by
  induction l with
  | nil => rfl
  | cons x r ih => simp [rcs, Tm.rc] at ih ⊢; omega
theorem rcs_append (l r : List Tm) : rcs (l ++ r) = rcs l ++ rcs r := by simp [rcs]
theorem rcs_one (t : Tm) : rcs [t] = t.rc := by simp [rcs]
theorem rcs_cell : ∀ (l : List Tm) (i : Nat) (t : Tm), l[i]? = some t → (rcs l)[i * 2]? = some (.int .i64 t.id) ∧ (rcs l)[i * 2 + 1]? = some (.int .i64 (t.due : Int))
  | [], i, t, h => by simp at h
  | x :: r, 0, t, h => by
    simp at h
    subst h
    simp [rcs, Tm.rc]
  | x :: r, i + 1, t, h => by
    simp only [List.getElem?_cons_succ] at h
    have ih := rcs_cell r i t h
    have e : rcs (x :: r) = x.rc ++ rcs r := rfl
    have hl : x.rc.length = 2 := rfl
    have e0 : (i + 1) * 2 - 2 = i * 2 := by omega
    have e1 : (i + 1) * 2 + 1 - 2 = i * 2 + 1 := by omega
    refine ⟨?_, ?_⟩
    · rw [e, List.getElem?_append_right (by omega), hl, e0]; exact ih.1
    · rw [e, List.getElem?_append_right (by omega), hl, e1]; exact ih.2

/-- Block q is the document's wheel; L waits. -/
def RWh (w : World) (q : Nat) (F : Nat → Prop) (now : Nat) (L : List Tm) : Prop :=
  ∃ (A : Option Addr) (c : Nat), Blk w q 43 #[.int .i64 (now : Int), .slice A L.length c] ∧ Own w 62 2 A L.length c (rcs L) ∧ F q ∧ ∀ g, A = some ⟨g, 0, none⟩ → F g
section
variable {w w' : World} {q now : Nat} {F G S : Nat → Prop} {L : List Tm}
theorem RWh.mono (h : RWh w q F now L) (hFG : ∀ i, i < w.heap.size → F i → G i) : RWh w q G now L := by
  obtain ⟨A, c, h1, h2, h3, h4⟩ := h
  exact ⟨A, c, h1, h2, hFG q h1.lt h3, fun g hg => hFG g (h2.lt hg) (h4 g hg)⟩
theorem RWh.fr (h : RWh w q F now L) (f : Fr S w w') (hS : ∀ i, F i → ¬ S i) : RWh w' q F now L := by
  obtain ⟨A, c, h1, h2, h3, h4⟩ := h
  exact ⟨A, c, h1.fr f (hS q h3), h2.fr f fun g hg => hS g (h4 g hg), h3, h4⟩
theorem RWh.fr0 (h : RWh w q F now L) (f : Fr (fun _ => False) w w') : RWh w' q F now L := h.fr f fun _ _ => id
theorem RWh.lt (h : RWh w q F now L) : q < w.heap.size := by
  obtain ⟨A, c, h1, _⟩ := h
  exact h1.lt
end
theorem info62 : (Try.prog.info? 62).map (fun i => (i.zero, i.size, i.bytes)) = some (some (.agg #[.int .i64 0, .int .i64 0]), 2, 16) := by kernel_rfl

theorem rnew (w : World) : Calls Try.prog 14 #[] w fun e w' => e = .returned (.pointer (some ⟨w.heap.size, 0, none⟩)) ∧ RWh w' w.heap.size (fun i => w.heap.size ≤ i) 0 [] ∧ Fr (fun _ => False) w w' := by
  go_enter Try.func14, Try.ntmps14
  go_wp2_with fail
  go_ret
  exact ⟨rfl, ⟨none, 0, Blk.new _ _ _, Own.nil_ _ _ _, Nat.le_refl _, nofun⟩, (Fr.refl _ _).alloc _⟩

section
variable {w : World} {q now : Nat} {F : Nat → Prop} {L : List Tm}
set_option maxHeartbeats 1600000 in
/-- Where id stands first. -/
theorem rat_any (h : RWh w q F now L) (hl : L.length ≤ 1000) (id : Int) (p : Nat) (hp : p ≤ L.length) (hbefore : ∀ j u, j < p → L[j]? = some u → u.id ≠ id) (hat : p < L.length → ∃ t, L[p]? = some t ∧ t.id = id) (r : Int) (hr : r = if p < L.length then (p : Int) else -1) :
    Calls Try.prog 30 #[.pointer (some ⟨q, 0, none⟩), .int .i64 id] w fun e w' => e = .returned (.int .i64 r) ∧ w = w' := by
  obtain ⟨A, c, hB, hO, _⟩ := h
  have b1 := hB.cell 1
  simp only [List.getElem?_toArray, List.getElem?_cons_zero, List.getElem?_cons_succ] at b1
  have HO := Lib.hid hO
  have HBE := Lib.hid hbefore
  have HAT := Lib.hid hat
  have HR := Lib.hid hr
  clear hB hO hbefore hat hr
  obtain ⟨n, hn⟩ : ∃ n, n = L.length := ⟨_, rfl⟩
  have HN := Lib.hid hn
  rw [← hn] at hp hl b1 HO HAT HR
  clear hn
  go_enter Try.func30, Try.ntmps30
  go_wp2_with fail
  go_loop [5] (fun i => ∃ j : Nat, j ≤ p ∧ i = .int .i64 (j : Int)) (fun i => 2000 - (intOf i).toNat)
  case atStart => exact ⟨0, Nat.zero_le _, rfl⟩
  case round =>
    obtain ⟨j, hj, rfl⟩ := hrel
    by_cases hjn : j < n
    · obtain ⟨u, hu⟩ : ∃ u, L[j]? = some u := ⟨_, List.getElem?_eq_getElem (by have := HN.out; omega)⟩
      obtain ⟨g, rfl⟩ := HO.out.some_ (by omega)
      have g0 := HO.out.cell (j * 2) (by omega)
      rw [(rcs_cell L j u hu).1] at g0
      have HU := Lib.hid hu
      clear hu
      by_cases hjp : j < p
      · have hd : (u.id == id) = false := by simpa using HBE.out j u hjp HU.out
        go_wp2_with fail
        go_round
        case rel => exact ⟨j + 1, by omega, by go_num⟩
        case measure => simp [intOf]; omega
      · obtain rfl : j = p := by omega
        have hd : (u.id == id) = true := by
          obtain ⟨t, h1, h2⟩ := HAT.out hjn
          have h3 := HU.out
          rw [h1] at h3
          rw [← Option.some.inj h3]
          simpa using h2
        have HRR := Lib.hid (show r = (j : Int) by rw [HR.out, if_pos hjn])
        go_wp2_with fail
        go_ret
        exact ⟨by rw [HRR.out]; rfl, rfl⟩
    · have HRR := Lib.hid (show r = -1 by rw [HR.out, if_neg (by omega)])
      go_wp2_with fail
      go_ret
      exact ⟨by rw [HRR.out]; rfl, rfl⟩
theorem first_id : ∀ {l : List Tm} {id : Int}, (∃ t, t ∈ l ∧ t.id = id) → ∃ (p : Nat) (t : Tm), l[p]? = some t ∧ t.id = id ∧ ∀ j u, j < p → l[j]? = some u → u.id ≠ id
  | [], id, h => by obtain ⟨t, h, _⟩ := h; cases h
  | x :: r, id, h => by
    by_cases e : x.id = id
    · exact ⟨0, x, by simp, e, fun j u hj => absurd hj (Nat.not_lt_zero _)⟩
    · have hm : ∃ t, t ∈ r ∧ t.id = id := by
        obtain ⟨t, h1, h2⟩ := h
        rcases List.mem_cons.1 h1 with h3 | h3
        · subst h3; exact absurd h2 e
        · exact ⟨t, h3, h2⟩
      obtain ⟨p, t, hp, ht, hb⟩ := first_id hm
      refine ⟨p + 1, t, by simpa using hp, ht, fun j u hj hu => ?_⟩
      cases j with
      | zero => simp at hu; subst hu; exact e
      | succ j => exact hb j u (by omega) (by simpa using hu)
theorem rat_none (h : RWh w q F now L) (hl : L.length ≤ 1000) (id : Int) (hno : ∀ t, t ∈ L → t.id ≠ id) :
    Calls Try.prog 30 #[.pointer (some ⟨q, 0, none⟩), .int .i64 id] w fun e w' => e = .returned (.int .i64 (-1)) ∧ w = w' :=
  rat_any h hl id L.length (Nat.le_refl _) (fun j u _ hu => hno u (List.mem_of_getElem? hu)) (fun h => absurd h (Nat.lt_irrefl _)) (-1) (by rw [if_neg (Nat.lt_irrefl _)])
theorem rat_some (h : RWh w q F now L) (hl : L.length ≤ 1000) (p : Nat) (t : Tm) (hp : L[p]? = some t) (hb : ∀ j u, j < p → L[j]? = some u → u.id ≠ t.id) :
    Calls Try.prog 30 #[.pointer (some ⟨q, 0, none⟩), .int .i64 t.id] w fun e w' => e = .returned (.int .i64 (p : Int)) ∧ w = w' := by
  have hlt := (List.getElem?_eq_some_iff.1 hp).1
  exact rat_any h hl t.id p (by omega) hb (fun _ => ⟨t, hp, rfl⟩) (p : Int) (by rw [if_pos hlt])
end
end Go.Proofs.Ytgmeebpgncenmaa
