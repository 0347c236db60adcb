/- Order, Greatest, New. -/
import Derived.Test.YtncjhfofmeamdaaSl
import Derived.IntWalk
import Derived.Deep.RegionWith
import Derived.Deep.DeepCutAuto
import Derived.Deep.CutBlock
import Derived.Carry
namespace Go.Proofs.Ytncjhfofmeamdaa
open Go.RowKit
open Go.Maps (Keyed)

theorem keyed3 : Keyed Try.prog 3 := Go.Maps.int_keyed Try.underlying3
theorem key3 (a : Int) (h1 : -9223372036854775808 ≤ a) (h2 : a ≤ 9223372036854775807) : keyOf Try.prog 3 (kfI a) = some (.int .i64 a) :=
  Go.Maps.keyOf_int_mk Try.underlying3 (by
    have e1 : IntKind.i64.min = -9223372036854775808 := rfl
    have e2 : IntKind.i64.max = 9223372036854775807 := rfl
    simp only [Lit.wf, Bool.and_eq_true, decide_eq_true_eq]
    omega)
/-- The order of the block that was taken at a place; -1: none. -/
def ordAt : List (Nat × Nat) → Int → Int
  | [], _ => -1
  | p :: r, a => if (p.1 : Int) = a then (p.2 : Int) else ordAt r a
theorem ordAt_none {T : List (Nat × Nat)} {a : Int} (h : ∀ p, p ∈ T → (p.1 : Int) ≠ a) : ordAt T a = -1 := by
  induction T with
  | nil => rfl
  | cons p r ih =>
    unfold ordAt
    rw [if_neg (h p (by simp)), ih fun q hq => h q (by simp [hq])]
theorem ordAt_some {T : List (Nat × Nat)} (hd : T.Pairwise fun p q => p.1 ≠ q.1) {p : Nat × Nat} (h : p ∈ T) : ordAt T (p.1 : Int) = (p.2 : Int) := by
  induction T with
  | nil => cases h
  | cons q r ih =>
    obtain ⟨h1, h2⟩ := List.pairwise_cons.1 hd
    unfold ordAt
    rcases List.mem_cons.1 h with rfl | h3
    · rw [if_pos rfl]
    · rw [if_neg (by have := h1 p h3; omega), ih h2 h3]
theorem absent {T : List (Nat × Nat)} {a : Int} (h : ∀ p, p ∈ T → (p.1 : Int) ≠ a) : ∀ q ∈ mkT T, kfI q.1 ≠ kfI a := by
  intro q hq
  obtain ⟨p, hp, rfl⟩ := List.mem_map.1 hq
  simpa [kfI] using h p hp
theorem present {T : List (Nat × Nat)} {p : Nat × Nat} (h : p ∈ T) : ∃ i : Nat, (mkT T)[i]? = some ((p.1 : Int), p.2) := by
  obtain ⟨i, hi⟩ := List.getElem?_of_mem h
  exact ⟨i, by unfold mkT; rw [List.getElem?_map, hi]; rfl⟩
theorem Ar.keys {w : World} {b m fb n : Nat} {A : Nat → Option Addr} {c : Nat → Nat} {f : Nat → List Nat} {T : List (Nat × Nat)} (h : Ar w b m fb n A c f T) : T.Pairwise fun p q => p.1 ≠ q.1 := by
  have := h.map.apart
  unfold mkT at this
  rw [List.pairwise_map] at this
  exact this.imp fun {a b} hab e => hab (by rw [e])
section
variable {w : World} {b m fb n : Nat} {A : Nat → Option Addr} {c : Nat → Nat} {f : Nat → List Nat} {T : List (Nat × Nat)}
set_option maxHeartbeats 800000 in
theorem order_any (h : Ar w b m fb n A c f T) (a : Int) (h1 : -9223372036854775808 ≤ a) (h2 : a ≤ 9223372036854775807) : Calls Try.prog 17 #[.pointer (some ⟨b, 0, none⟩), .int .i64 a] w fun e w' => e = .returned (.int .i64 (ordAt T a)) ∧ w = w' := by
  have b1 := h.cmap
  by_cases hno : ∀ p, p ∈ T → (p.1 : Int) ≠ a
  · have HE := Lib.hid (ordAt_none hno)
    have hno' := absent hno
    have hm := h.map
    clear hno h
    go_enter Try.func17, Try.ntmps17
    go_wp2_with (at_lookup; refine wpList_look_none _ rfl _ _ 48 true rfl 3 3 keyed3 Try.underlying48 kfI kfN m _ hm _ (Try.zeroValue3 _) rfl a rfl _ (key3 a h1 h2) hno' ?_)
    go_ret
    exact ⟨by rw [HE.out]; rfl, rfl⟩
  · simp only [Classical.not_forall, ne_eq, Classical.not_not] at hno
    obtain ⟨p, hp, rfl⟩ := hno
    have HE := Lib.hid (ordAt_some h.keys hp)
    obtain ⟨i, hi⟩ := present hp
    have hm := h.map
    obtain ⟨x, o⟩ := p
    clear h
    go_enter Try.func17, Try.ntmps17
    go_wp2_with (at_lookup; refine wpList_look_some _ rfl _ _ 48 true rfl 3 3 keyed3 Try.underlying48 kfI kfN m _ hm rfl (x : Int) rfl i o hi ?_; unfold kfN)
    go_ret
    exact ⟨ret_eq HE.out.symm, rfl⟩
set_option maxHeartbeats 1600000 in
/-- The greatest order of a row that holds something. -/
theorem greatest_any (h : Ar w b m fb n A c f T) (hn : n ≤ 16) (g : Int) (hg1 : -1 ≤ g) (hg2 : g ≤ (n : Int)) (hge : ∀ j, j ≤ n → g < (j : Int) → f j = []) (hgn : 0 ≤ g → f g.toNat ≠ []) :
    Calls Try.prog 23 #[.pointer (some ⟨b, 0, none⟩)] w fun e w' => e = .returned (.int .i64 g) ∧ w = w' := by
  have b0 := h.cord
  have b2 := h.cfree
  have H := Lib.hid h
  have HGE := Lib.hid hge
  have HGN := Lib.hid hgn
  clear h hge hgn
  go_enter Try.func23, Try.ntmps23
  go_wp2_with fail
  go_loop [3] (fun i => ∃ x : Int, g ≤ x ∧ -1 ≤ x ∧ x ≤ (n : Int) ∧ i = .int .i64 x) (fun i => (intOf i + 1).toNat)
  case atStart => exact ⟨(n : Int), hg2, by omega, by omega, rfl⟩
  case round =>
    obtain ⟨x, hx1, hx2, hx3, rfl⟩ := hrel
    by_cases hx0 : 0 ≤ x
    · obtain ⟨j, rfl⟩ : ∃ j : Nat, x = j := ⟨x.toNat, by omega⟩
      have hjn : j ≤ n := by omega
      have r0 := H.out.crow hjn
      have hjs : (j : Int) < (n : Int) + 1 := by omega
      by_cases hgj : g < (j : Int)
      · have hfl : (f j).length = 0 := by rw [HGE.out j hjn hgj]; rfl
        rw [hfl] at r0
        go_wp2_with fail
        go_round
        case rel => exact ⟨(j : Int) - 1, by omega, by omega, by omega, rfl⟩
        case measure => simp [intOf]
      · have hgj2 : g = (j : Int) := by omega
        have hfl : 0 < (f j).length := by
          have h1 := HGN.out (by omega)
          rw [hgj2, Int.toNat_natCast] at h1
          exact List.length_pos_iff.2 h1
        have HG := Lib.hid hgj2
        clear hgj2 hgj
        generalize (f j).length = L at *
        go_wp2_with fail
        go_ret
        exact ⟨by rw [HG.out]; rfl, rfl⟩
    · have HG := Lib.hid (show g = -1 by omega)
      go_wp2_with fail
      go_ret
      exact ⟨by rw [HG.out]; rfl, rfl⟩
end
end Go.Proofs.Ytncjhfofmeamdaa
