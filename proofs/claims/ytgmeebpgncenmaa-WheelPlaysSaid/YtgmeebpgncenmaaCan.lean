/- Cancel. -/
import Derived.Test.YtgmeebpgncenmaaTak
namespace Go.Proofs.Ytgmeebpgncenmaa
open Go.RowKit

def CanE (w : World) (b m now added : Nat) (A : Nat → Option Addr) (L : List Tm) (t : Tm) (e : Ending) (w' : World) : Prop := e = .returned (.bool true) ∧ Taken w b m now added A L t w'

set_option maxHeartbeats 1600000 in
theorem cancel_no (b m now added : Nat) (A : Nat → Option Addr) (c : Nat → Nat) (X : Nat → List Tm) (L : List Tm) (w : World) (h : Wh w b m now added A c X L) (id : Int) (h1 : -9223372036854775808 ≤ id) (h2 : id ≤ 9223372036854775807) (hno : ∀ t ∈ L, t.id ≠ id) :
    Calls Try.prog 16 #[.pointer (some ⟨b, 0, none⟩), .int .i64 id] w fun e w' => e = .returned (.bool false) ∧ Fr (fun _ => False) w w' := by
  have c50 := h.cmap
  have hlt := h.lt
  have hno' := absent hno
  go_enter Try.func16, Try.ntmps16
  go_wp2_with (first | (at_lookup; refine wpList_look_none _ rfl _ _ 46 true rfl 3 55 keyed3 Try.underlying46 kfI Tm.v m _ h.map _ (Try.zeroValue55 _) rfl id rfl _ (key3 id h1 h2) hno' ?_))
  go_ret
  exact ⟨rfl, (Fr.refl _ _).alloc _⟩

set_option maxHeartbeats 1600000 in
theorem cancel_yes (b m now added : Nat) (A : Nat → Option Addr) (c : Nat → Nat) (X : Nat → List Tm) (L : List Tm) (w : World) (h : Wh w b m now added A c X L) (hst : St X L [] now now now) (t : Tm) (ht : t ∈ L) (hL : L.length ≤ 1000) (hd : t.due < 4611686018427387904) :
    Calls Try.prog 16 #[.pointer (some ⟨b, 0, none⟩), .int .i64 t.id] w (CanE w b m now added A L t) := by
  have c50 := h.cmap
  have hlt := h.lt
  obtain ⟨i, hi⟩ := present ht
  have f1 : Fr (fun _ => False) w (w.alloc (.cells #[.int .i64 t.id, .int .i64 (t.due : Int), .int .i64 (t.num : Int)] 55)) := (Fr.refl _ w).alloc _
  have HT := Lib.hid (take_any b m now added A c X L _ (h.fr0 f1) hst t ht hL hd)
  have HF := Lib.hid f1
  have hc := h.map
  clear f1
  go_enter Try.func16, Try.ntmps16
  go_wp2_with (first | (at_lookup; refine wpList_look_some _ rfl _ _ 46 true rfl 3 55 keyed3 Try.underlying46 kfI Tm.v m _ hc rfl t.id rfl i t hi ?_; unfold Tm.v))
  refine HT.out.mono ?_
  rintro e w2 ⟨rfl, A2, c2, X2, h1, h2, h3, h4⟩
  have hfin : Taken w b m now added A L t w2 := ⟨A2, c2, X2, h1, h2, (HF.out.mono fun _ _ h => h.elim).trans (h3.mono fun _ _ h => h), fun i hi => (h4 i hi).imp_right fun h5 => Nat.le_trans HF.out.size h5⟩
  have HFIN := Lib.hid hfin
  clear hfin h1 h2 h3 h4
  go_wp2_with fail
  go_ret
  exact ⟨rfl, HFIN.out⟩
end Go.Proofs.Ytgmeebpgncenmaa
