/- Next: how long it is till one is due. -/
import Derived.Test.YtgmeebpgncenmaaTik0
import Derived.Test.YtgmeebpgncenmaaSmall
import Derived.Deep.LoopGhost
namespace Go.Proofs.Ytgmeebpgncenmaa
open Go.RowKit

/-- v is how long it is from now till the first of L is due; 0: L is empty. -/
def IsNext (L : List Tm) (now v : Nat) : Prop := (v = 0 ∧ L = []) ∨ ((∃ t, t ∈ L ∧ t.due = now + v) ∧ 0 < v ∧ ∀ t, t ∈ L → now + v ≤ t.due)
/-- The same of those of L that are not in rest. -/
def NextInv (L : List Tm) (rest : List (Int × Tm)) (now v : Nat) : Prop :=
  ((v = 0 ∧ ∀ t, t ∈ L → (t.id, t) ∈ rest) ∨ ((∃ t, t ∈ L ∧ t.due = now + v) ∧ 0 < v ∧ ∀ t, t ∈ L → (t.id, t) ∈ rest ∨ now + v ≤ t.due)) ∧ ∀ p, p ∈ rest → p.2 ∈ L ∧ p.1 = p.2.id

theorem NextInv.start (L : List Tm) (now : Nat) : NextInv L (L.map fun t => (t.id, t)) now 0 :=
  ⟨.inl ⟨rfl, fun t ht => List.mem_map.2 ⟨t, ht, rfl⟩⟩, fun p hp => by obtain ⟨t, ht, rfl⟩ := List.mem_map.1 hp; exact ⟨ht, rfl⟩⟩
theorem NextInv.stop {L : List Tm} {now v : Nat} (h : NextInv L [] now v) : IsNext L now v := by
  obtain ⟨h1 | ⟨h1, h2, h3⟩, _⟩ := h
  · refine .inl ⟨h1.1, ?_⟩
    cases L with
    | nil => rfl
    | cons x r => cases h1.2 x (by simp)
  · exact .inr ⟨h1, h2, fun t ht => (h3 t ht).resolve_left (by simp)⟩
theorem mem_erase_or {α : Type} {l : List α} {i : Nat} {x : α} (hi : l[i]? = some x) {y : α} (hy : y ∈ l) : y = x ∨ y ∈ l.eraseIdx i := by
  obtain ⟨j, hj⟩ := List.getElem?_of_mem hy
  by_cases e : j = i
  · subst e
    rw [hi] at hj
    exact .inl (Option.some.inj hj).symm
  · refine .inr ?_
    rcases Nat.lt_or_ge j i with h1 | h1
    · exact List.mem_of_getElem? (i := j) (by rw [List.getElem?_eraseIdx_of_lt h1]; exact hj)
    · exact List.mem_of_getElem? (i := j - 1) (by rw [List.getElem?_eraseIdx_of_ge (by omega), show j - 1 + 1 = j by omega]; exact hj)
theorem NextInv.less {L : List Tm} {rest : List (Int × Tm)} {now v i : Nat} {a : Int} {t : Tm} (h : NextInv L rest now v) (hi : rest[i]? = some (a, t)) (hd : now < t.due) (hv : v = 0 ∨ t.due - now < v) : NextInv L (rest.eraseIdx i) now (t.due - now) := by
  have hm := h.2 _ (List.mem_of_getElem? hi)
  simp only at hm
  refine ⟨.inr ⟨⟨t, hm.1, by omega⟩, by omega, fun s hs => ?_⟩, fun p hp => h.2 p (List.mem_of_mem_eraseIdx hp)⟩
  have hcase : (s.id, s) ∈ rest → (s.id, s) ∈ rest.eraseIdx i ∨ now + (t.due - now) ≤ s.due := fun hs' => by
    rcases mem_erase_or hi hs' with e | e
    · right; have : s = t := congrArg Prod.snd e; subst this; omega
    · exact .inl e
  rcases h.1 with ⟨h1, h2⟩ | ⟨h1, h2, h3⟩
  · exact hcase (h2 s hs)
  · rcases h3 s hs with h4 | h4
    · exact hcase h4
    · exact .inr (by omega)
theorem NextInv.more {L : List Tm} {rest : List (Int × Tm)} {now v i : Nat} {a : Int} {t : Tm} (h : NextInv L rest now v) (hi : rest[i]? = some (a, t)) (hv : 0 < v) (hd : now + v ≤ t.due) : NextInv L (rest.eraseIdx i) now v := by
  refine ⟨.inr ?_, fun p hp => h.2 p (List.mem_of_mem_eraseIdx hp)⟩
  rcases h.1 with ⟨h1, h2⟩ | ⟨h1, h2, h3⟩
  · omega
  · refine ⟨h1, h2, fun s hs => ?_⟩
    rcases h3 s hs with h4 | h4
    · rcases mem_erase_or hi h4 with e | e
      · right; have : s = t := congrArg Prod.snd e; subst this; exact hd
      · exact .inl e
    · exact .inr h4

def Nexts (w : World) (L : List Tm) (now : Nat) (e : Ending) (w' : World) : Prop := ∃ v : Nat, e = .returned (.int .i64 (v : Int)) ∧ IsNext L now v ∧ Fr (fun _ => False) w w'

set_option maxHeartbeats 1600000 in
theorem next_any (b m now added : Nat) (A : Nat → Option Addr) (c : Nat → Nat) (X : Nat → List Tm) (L : List Tm) (w : World) (h : Wh w b m now added A c X L) (hdu : ∀ t, t ∈ L → now < t.due ∧ t.due < 4611686018427387904) :
    Calls Try.prog 23 #[.pointer (some ⟨b, 0, none⟩)] w (Nexts w L now) := by
  have c50 := h.cmap
  have hlt := h.lt
  have H := Lib.hid h
  have HDU := Lib.hid hdu
  clear hdu
  go_enter Try.func23, Try.ntmps23
  go_wp2_with (at_range; refine wpList_range _ rfl (.tmp 10) 46 rfl 3 55 Try.underlying46 kfI Tm.v m _ h.map rfl ?_)
  intro w1 hI f1 s1
  have HI := Lib.hid hI
  have HF := Lib.hid f1
  have H1 := Lib.hid (H.out.fr0 f1)
  have hrb : w.heap.size ≠ m ∧ w.heap.size ≠ b := ⟨hI.ne, by omega⟩
  have hwr : ∀ i, Wf b m A i → i ≠ w.heap.size := fun i hi => Nat.ne_of_lt (H.out.in_ hi)
  have HWR := Lib.hid hwr
  have HGE := Lib.hid (Nat.le_refl w.heap.size)
  clear hI f1 s1 c50 hlt h H hwr
  generalize hr : w.heap.size = r at *
  have HRR := Lib.hid hr
  clear hr
  go_wp2_with fail
  go_loopg [3] L.length (fun gk v wr => ∃ (n : Nat) (rest : List (Int × Tm)), rest.length = gk ∧ v = .int .i64 (n : Int) ∧ IterIs Try.prog 3 kfI Tm.v wr r m (L.map fun t => (t.id, t)) rest ∧ Wh wr b m now added A c X L ∧ NextInv L rest now n ∧ Fr (fun _ => False) w wr)
  case atStart => exact ⟨0, _, by simp, rfl, HI.out, H1.out, NextInv.start _ _, HF.out⟩
  case round =>
    obtain ⟨n, rest, hgk, rfl, hI, hW, hN, hF⟩ := hrel
    have HGK := Lib.hid hgk
    have H2 := Lib.hid hW
    have HN := Lib.hid hN
    have HF2 := Lib.hid hF
    have HI2 := Lib.hid hI
    have c0 := hW.cnow
    have hlb := hW.lt
    clear hgk hW hN hF
    go_wp2_with (first | (at_next; refine wpList_next_ _ rfl (.tmp 11) rfl 3 kfI Tm.v r m _ _ hI rfl ?_ ?_))
    · intro h0
      subst h0
      go_wp2_with fail
      go_ret
      exact ⟨n, rfl, HN.out.stop, HF2.out⟩
    · intro i x t w2 hi hit hfr hsz hen
      have hm := (HN.out.2 _ (List.mem_of_getElem? hi)).1
      obtain ⟨hd1, hd2⟩ := HDU.out t hm
      have HM := Lib.hid hi
      have HIT := Lib.hid hit
      have HFR := Lib.hid (HF2.out.step hfr fun j hj => .inr (by have := HRR.out; omega))
      have H3 := Lib.hid (H2.out.fr hfr fun j hj e => HWR.out j hj e)
      have c0' := H3.out.cnow
      have hlb' := H3.out.lt
      have hlen : rest.length = gk := HGK.out
      have hgk : (rest.eraseIdx i).length = gk - 1 := by
        have h1 := (List.getElem?_eq_some_iff.1 hi).1
        rw [List.length_eraseIdx, if_pos h1]; omega
      have HE := Lib.hid hgk
      have hgp : 0 < gk := by have h1 := (List.getElem?_eq_some_iff.1 hi).1; omega
      simp only [kfI, Tm.v] at hen ⊢
      clear hi hit hfr hsz hm hlen hgk c0 hlb hI
      by_cases hn0 : n = 0
      · subst hn0
        go_wp2_with fail
        go_quiet (fail)
        go_wp2_with fail
        go_roundg (gk - 1)
        case measure => omega
        case rel => exact ⟨t.due - now, _, HE.out, by rw [show ((t.due - now : Nat) : Int) = (t.due : Int) - (now : Int) by omega], HIT.out.fr (((Fr.refl (fun _ => False) _).alloc _).drewN _) id id, H3.out.fr0 (((Fr.refl _ _).alloc _).drewN _), HN.out.less HM.out hd1 (.inl rfl), (HFR.out.alloc _).drewN _⟩
      · have hb : ((n : Int) == 0) = false := by simp; omega
        clear hn0
        by_cases hlt : t.due - now < n
        · have hl : (t.due : Int) - (now : Int) < (n : Int) := by omega
          go_wp2_with fail
          go_quiet (fail)
          go_wp2_with fail
          go_roundg (gk - 1)
          case measure => omega
          case rel => exact ⟨t.due - now, _, HE.out, by rw [show ((t.due - now : Nat) : Int) = (t.due : Int) - (now : Int) by omega], HIT.out.fr (((Fr.refl (fun _ => False) _).alloc _).drewN _) id id, H3.out.fr0 (((Fr.refl _ _).alloc _).drewN _), HN.out.less HM.out hd1 (.inr hlt), (HFR.out.alloc _).drewN _⟩
        · have hl : decide ((t.due : Int) - (now : Int) < (n : Int)) = false := by rw [decide_eq_false_iff_not]; omega
          have hl2 : (n : Int) ≤ (t.due : Int) - (now : Int) := by omega
          have hnp : 0 < n := by have h1 : ¬ ((n : Int) = 0) := by simpa using hb
                                 omega
          go_wp2_with fail
          go_quiet (fail)
          go_wp2_with fail
          go_roundg (gk - 1)
          case measure => omega
          case rel => exact ⟨n, _, HE.out, rfl, HIT.out.fr (((Fr.refl (fun _ => False) _).alloc _).drewN _) id id, H3.out.fr0 (((Fr.refl _ _).alloc _).drewN _), HN.out.more HM.out hnp (by omega), (HFR.out.alloc _).drewN _⟩
end Go.Proofs.Ytgmeebpgncenmaa
