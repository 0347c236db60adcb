/- What Add refuses; Len, Now, Left. -/
import Derived.Test.YtgmeebpgncenmaaAdd
namespace Go.Proofs.Ytgmeebpgncenmaa
open Go.RowKit

theorem absent {L : List Tm} {id : Int} (hno : ∀ t ∈ L, t.id ≠ id) : ∀ p ∈ L.map (fun t => (t.id, t)), kfI p.1 ≠ kfI id := by
  intro p hp
  obtain ⟨t, ht, rfl⟩ := List.mem_map.1 hp
  simpa [kfI] using hno t ht
theorem present {L : List Tm} {t : Tm} (ht : t ∈ L) : ∃ i : Nat, (L.map fun t => (t.id, t))[i]? = some (t.id, t) := by
  obtain ⟨i, hi⟩ := List.getElem?_of_mem ht
  exact ⟨i, by rw [List.getElem?_map, hi]; rfl⟩

section
variable (b m now added : Nat) (A : Nat → Option Addr) (c : Nat → Nat) (X : Nat → List Tm) (L : List Tm) (w : World) (h : Wh w b m now added A c X L)
include h

set_option maxHeartbeats 800000 in
theorem len_any : Calls Try.prog 13 #[.pointer (some ⟨b, 0, none⟩)] w fun e w' => e = .returned (.int .i64 (L.length : Int)) ∧ w = w' := by
  have c50 := h.cmap
  go_enter Try.func13, Try.ntmps13
  go_wp2_with (at_len; refine wpList_len _ rfl _ 46 rfl 3 55 Try.underlying46 kfI Tm.v m _ h.map rfl ?_)
  go_ret
  exact ⟨by simp, rfl⟩
set_option maxHeartbeats 800000 in
theorem now_any : Calls Try.prog 22 #[.pointer (some ⟨b, 0, none⟩)] w fun e w' => e = .returned (.int .i64 (now : Int)) ∧ w = w' := by
  have c0 := h.cnow
  clear h
  go_enter Try.func22, Try.ntmps22
  go_wp2_with fail
  go_ret
  exact ⟨rfl, rfl⟩
set_option maxHeartbeats 800000 in
theorem left_none (id : Int) (h1 : -9223372036854775808 ≤ id) (h2 : id ≤ 9223372036854775807) (hno : ∀ t ∈ L, t.id ≠ id) :
    Calls Try.prog 20 #[.pointer (some ⟨b, 0, none⟩), .int .i64 id] w fun e w' => e = .returned (.tuple #[.int .i64 0, .bool false]) ∧ Fr (fun _ => False) w w' := by
  have c0 := h.cnow
  have c50 := h.cmap
  have hlt := h.lt
  have hno' := absent hno
  go_enter Try.func20, Try.ntmps20
  go_wp2_with (first | (at_lookup; refine wpList_look_none _ rfl _ _ 46 true rfl 3 55 keyed3 Try.underlying46 kfI Tm.v m _ h.map _ (Try.zeroValue55 _) rfl id rfl _ (key3 id h1 h2) hno' ?_))
  go_ret2
  exact ⟨rfl, (Fr.refl _ _).alloc _⟩
set_option maxHeartbeats 800000 in
theorem left_some (t : Tm) (ht : t ∈ L) (h1 : t.due < 4611686018427387904) (h2 : now < 4611686018427387904) :
    Calls Try.prog 20 #[.pointer (some ⟨b, 0, none⟩), .int .i64 t.id] w fun e w' => e = .returned (.tuple #[.int .i64 ((t.due : Int) - (now : Int)), .bool true]) ∧ Fr (fun _ => False) w w' := by
  have c0 := h.cnow
  have c50 := h.cmap
  have hlt := h.lt
  obtain ⟨i, hi⟩ := present ht
  go_enter Try.func20, Try.ntmps20
  go_wp2_with (first | (at_lookup; refine wpList_look_some _ rfl _ _ 46 true rfl 3 55 keyed3 Try.underlying46 kfI Tm.v m _ h.map rfl t.id rfl i t hi ?_; unfold Tm.v))
  go_region
  all_goals go_wp2_with fail
  all_goals go_ret2
  all_goals exact ⟨rfl, ((Fr.refl _ _).alloc _).drew⟩
set_option maxHeartbeats 800000 in
theorem add_lo_no (id a : Int) (h1 : -9223372036854775808 ≤ id) (h2 : id ≤ 9223372036854775807) (hno : ∀ t ∈ L, t.id ≠ id) (ha : a < 1) :
    Calls Try.prog 11 #[.pointer (some ⟨b, 0, none⟩), .int .i64 id, .int .i64 a] w fun e w' => e = .returned (.int .i64 1) ∧ Fr (fun _ => False) w w' := by
  have c50 := h.cmap
  have hlt := h.lt
  have hno' := absent hno
  go_enter Try.func11, Try.ntmps11
  go_wp2_with (first | (at_lookup; refine wpList_look_none _ rfl _ _ 46 true rfl 3 55 keyed3 Try.underlying46 kfI Tm.v m _ h.map _ (Try.zeroValue55 _) rfl id rfl _ (key3 id h1 h2) hno' ?_) | (at_len; refine wpList_len _ rfl _ 46 rfl 3 55 Try.underlying46 kfI Tm.v m _ (h.map.alloc _) rfl ?_))
  go_ret
  exact ⟨rfl, (Fr.refl _ _).alloc _⟩
set_option maxHeartbeats 800000 in
theorem add_lo_yes (t : Tm) (ht : t ∈ L) (a : Int) (ha : a < 1) :
    Calls Try.prog 11 #[.pointer (some ⟨b, 0, none⟩), .int .i64 t.id, .int .i64 a] w fun e w' => e = .returned (.int .i64 1) ∧ Fr (fun _ => False) w w' := by
  have c50 := h.cmap
  have hlt := h.lt
  obtain ⟨i, hi⟩ := present ht
  go_enter Try.func11, Try.ntmps11
  go_wp2_with (first | (at_lookup; refine wpList_look_some _ rfl _ _ 46 true rfl 3 55 keyed3 Try.underlying46 kfI Tm.v m _ h.map rfl t.id rfl i t hi ?_; unfold Tm.v))
  go_ret
  exact ⟨rfl, (Fr.refl _ _).alloc _⟩
set_option maxHeartbeats 800000 in
theorem add_hi_no (id a : Int) (h1 : -9223372036854775808 ≤ id) (h2 : id ≤ 9223372036854775807) (hno : ∀ t ∈ L, t.id ≠ id) (ha : 4095 < a) :
    Calls Try.prog 11 #[.pointer (some ⟨b, 0, none⟩), .int .i64 id, .int .i64 a] w fun e w' => e = .returned (.int .i64 1) ∧ Fr (fun _ => False) w w' := by
  have c50 := h.cmap
  have hlt := h.lt
  have hno' := absent hno
  have ha1 : ¬ a < 1 := by omega
  go_enter Try.func11, Try.ntmps11
  go_wp2_with (first | (at_lookup; refine wpList_look_none _ rfl _ _ 46 true rfl 3 55 keyed3 Try.underlying46 kfI Tm.v m _ h.map _ (Try.zeroValue55 _) rfl id rfl _ (key3 id h1 h2) hno' ?_) | (at_len; refine wpList_len _ rfl _ 46 rfl 3 55 Try.underlying46 kfI Tm.v m _ (h.map.alloc _) rfl ?_))
  go_ret
  exact ⟨rfl, (Fr.refl _ _).alloc _⟩
set_option maxHeartbeats 800000 in
theorem add_hi_yes (t : Tm) (ht : t ∈ L) (a : Int) (ha : 4095 < a) :
    Calls Try.prog 11 #[.pointer (some ⟨b, 0, none⟩), .int .i64 t.id, .int .i64 a] w fun e w' => e = .returned (.int .i64 1) ∧ Fr (fun _ => False) w w' := by
  have c50 := h.cmap
  have hlt := h.lt
  obtain ⟨i, hi⟩ := present ht
  have ha1 : ¬ a < 1 := by omega
  go_enter Try.func11, Try.ntmps11
  go_wp2_with (first | (at_lookup; refine wpList_look_some _ rfl _ _ 46 true rfl 3 55 keyed3 Try.underlying46 kfI Tm.v m _ h.map rfl t.id rfl i t hi ?_; unfold Tm.v))
  go_ret
  exact ⟨rfl, (Fr.refl _ _).alloc _⟩
set_option maxHeartbeats 800000 in
theorem add_there (t : Tm) (ht : t ∈ L) (a : Int) (ha1 : ¬ a < 1) (ha2 : ¬ 4095 < a) :
    Calls Try.prog 11 #[.pointer (some ⟨b, 0, none⟩), .int .i64 t.id, .int .i64 a] w fun e w' => e = .returned (.int .i64 160) ∧ Fr (fun _ => False) w w' := by
  have c50 := h.cmap
  have hlt := h.lt
  obtain ⟨i, hi⟩ := present ht
  go_enter Try.func11, Try.ntmps11
  go_wp2_with (first | (at_lookup; refine wpList_look_some _ rfl _ _ 46 true rfl 3 55 keyed3 Try.underlying46 kfI Tm.v m _ h.map rfl t.id rfl i t hi ?_; unfold Tm.v))
  go_ret
  exact ⟨rfl, (Fr.refl _ _).alloc _⟩
set_option maxHeartbeats 800000 in
theorem add_full (id a : Int) (h1 : -9223372036854775808 ≤ id) (h2 : id ≤ 9223372036854775807) (hno : ∀ t ∈ L, t.id ≠ id) (ha1 : ¬ a < 1) (ha2 : ¬ 4095 < a) (hl : L.length = 1000) :
    Calls Try.prog 11 #[.pointer (some ⟨b, 0, none⟩), .int .i64 id, .int .i64 a] w fun e w' => e = .returned (.int .i64 161) ∧ Fr (fun _ => False) w w' := by
  have c50 := h.cmap
  have hlt := h.lt
  have hno' := absent hno
  go_enter Try.func11, Try.ntmps11
  go_wp2_with (first | (at_lookup; refine wpList_look_none _ rfl _ _ 46 true rfl 3 55 keyed3 Try.underlying46 kfI Tm.v m _ h.map _ (Try.zeroValue55 _) rfl id rfl _ (key3 id h1 h2) hno' ?_) | (at_len; refine wpList_len _ rfl _ 46 rfl 3 55 Try.underlying46 kfI Tm.v m _ (h.map.alloc _) rfl ?_))
  go_ret
  exact ⟨rfl, (Fr.refl _ _).alloc _⟩
end
end Go.Proofs.Ytgmeebpgncenmaa
