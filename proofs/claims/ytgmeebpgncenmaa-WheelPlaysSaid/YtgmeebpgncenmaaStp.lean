/- The steps that the laws are given; Add and Cancel whatever comes of them; ticks. -/
import Derived.Test.YtgmeebpgncenmaaWhl
import Derived.Test.YtgmeebpgncenmaaOpen
namespace Go.Proofs.Ytgmeebpgncenmaa
open Go.RowKit

/-- An int of the machine. -/
def I64 (x : Int) : Prop := -9223372036854775808 ≤ x ∧ x ≤ 9223372036854775807

/-- The steps that came in: of each its three cells. -/
def StepsIn (w : World) (A : Option Addr) (len : Nat) : Prop :=
  0 < len → ∃ b off, A = some ⟨b, off, none⟩ ∧ b < w.heap.size ∧ ∀ i, i < len → ∃ (x n s : Int), (I64 x ∧ I64 n ∧ I64 s) ∧
    w.cell? ⟨b, off + i * 3, none⟩ = some (.int .i64 x) ∧ w.cell? ⟨b, off + i * 3 + 1, none⟩ = some (.int .i64 n) ∧ w.cell? ⟨b, off + i * 3 + 2, none⟩ = some (.int .i64 s)

theorem cells36 : Try.prog.cellsOf 36 = 3 := by kernel_rfl
theorem cells3 : Try.prog.cellsOf 3 = 1 := by kernel_rfl

theorem steps_in {w : World} {A : Option Addr} {len cap : Nat} (h : Rd Try.prog w 32 [.slice A len cap]) : StepsIn w A len ∧ len ≤ 9223372036854775807 := by
  obtain ⟨A', len', cap', hc, hlc, hcm, _, hr⟩ := h.slice_ Try.underlying32 (by rw [cells36]; omega)
  simp at hc
  obtain ⟨rfl, rfl, rfl⟩ := hc
  refine ⟨fun hl => ?_, by omega⟩
  obtain ⟨b, off, rfl, hb, hi⟩ := hr hl
  refine ⟨b, off, rfl, hb, fun i hil => ?_⟩
  obtain ⟨cs, hlen, hcell, hrd⟩ := hi i hil
  rw [cells36] at hlen hcell
  obtain ⟨_, hf⟩ := hrd.struct_ Try.underlying36
  have f0 := hf 0 _ rfl
  have f1 := hf 1 _ rfl
  have f2 := hf 2 _ rfl
  match cs, hlen with
  | [v0, v1, v2], _ =>
    simp only [List.getElem_toArray, List.getElem_cons_zero, List.getElem_cons_succ, cells3, List.drop_zero, List.take_succ_cons, List.take_zero, List.drop_succ_cons] at f0 f1 f2
    obtain ⟨x, e0, hx1, hx2⟩ := f0.i64_ Try.underlying3
    obtain ⟨n, e1, hn1, hn2⟩ := f1.i64_ Try.underlying3
    obtain ⟨s, e2, hs1, hs2⟩ := f2.i64_ Try.underlying3
    simp at e0 e1 e2
    subst e0 e1 e2
    exact ⟨x, n, s, ⟨⟨hx1, hx2⟩, ⟨hn1, hn2⟩, ⟨hs1, hs2⟩⟩, hcell 0 _ rfl, hcell 1 _ rfl, hcell 2 _ rfl⟩

theorem StepsIn.below {w w' : World} {A : Option Addr} {len : Nat} (h : StepsIn w A len) (hb : Below w.heap.size w w') : StepsIn w' A len := by
  intro hl
  obtain ⟨b, off, hA, hlt, hi⟩ := h hl
  refine ⟨b, off, hA, Nat.lt_of_lt_of_le hlt hb.size, fun i hil => ?_⟩
  obtain ⟨x, n, s, h0, c0, c1, c2⟩ := hi i hil
  exact ⟨x, n, s, h0, (hb.cell hlt).trans c0, (hb.cell hlt).trans c1, (hb.cell hlt).trans c2⟩

/-- How many ticks a step lets go by. -/
def tks (s : Int) : Nat := (if s < 0 then (-(s + 1)).toNat else s.toNat) % 600
set_option maxHeartbeats 800000 in
theorem ticks_any (x n s : Int) (hs : I64 s) (w : World) :
    Calls Try.prog 18 #[.agg #[.int .i64 x, .int .i64 n, .int .i64 s]] w fun e w' => e = .returned (.int .i64 (tks s : Int)) ∧ w.alloc (.cells #[.int .i64 x, .int .i64 n, .int .i64 s] 36) = w' := by
  obtain ⟨h1, h2⟩ := hs
  by_cases hneg : s < 0
  · have HE := Lib.hid (show -((s + 1).tmod 600) = (tks s : Int) by unfold tks; rw [if_pos hneg, Int.natCast_emod, Int.toNat_of_nonneg (by omega), ← Int.neg_tmod, Int.tmod_eq_emod_of_nonneg (by omega)]; rfl)
    go_enter Try.func18, Try.ntmps18
    go_wp2_with fail
    go_ret
    exact ⟨ret_eq HE.out, rfl⟩
  · have HE := Lib.hid (show s % 600 = (tks s : Int) by unfold tks; rw [if_neg hneg, Int.natCast_emod, Int.toNat_of_nonneg (by omega)]; rfl)
    go_enter Try.func18, Try.ntmps18
    go_wp2_with fail
    go_ret
    exact ⟨ret_eq HE.out, rfl⟩
theorem tks_lt (s : Int) : tks s < 600 := Nat.mod_lt _ (by omega)

section
variable {w : World} {b now added : Nat} {F : Nat → Prop} {L : List Tm}
/-- What comes of Add. -/
def AddRes (now added : Nat) (L : List Tm) (id a r : Int) (added' : Nat) (L' : List Tm) : Prop :=
  (AddNo L id a r ∧ added' = added ∧ L' = L) ∨ (r = 0 ∧ 1 ≤ a ∧ a ≤ 4095 ∧ (∀ t, t ∈ L → t.id ≠ id) ∧ L.length < 1000 ∧ added' = added + 1 ∧ L' = L ++ [⟨id, now + a.toNat, added + 1⟩])
def WAddE (w : World) (b : Nat) (F : Nat → Prop) (now added : Nat) (L : List Tm) (id a : Int) (e : Ending) (w' : World) : Prop :=
  ∃ (r : Int) (added' : Nat) (L' : List Tm), e = .returned (.int .i64 r) ∧ AddRes now added L id a r added' L' ∧ Whl w' b (Fn F w) now added' L' ∧ Fr F w w'
theorem whl_add (h : Whl w b F now added L) (hnow : now < 1152921504606846976) (hadd : added < 1152921504606846976) (id a : Int) (hid : I64 id) :
    Calls Try.prog 11 #[.pointer (some ⟨b, 0, none⟩), .int .i64 id, .int .i64 a] w (WAddE w b F now added L id a) := by
  have hno : ∀ r, AddNo L id a r → Calls Try.prog 11 #[.pointer (some ⟨b, 0, none⟩), .int .i64 id, .int .i64 a] w (WAddE w b F now added L id a) := fun r hr => by
    refine (whl_add_no h id a r hid.1 hid.2 hr).mono ?_
    rintro e w' ⟨rfl, f⟩
    exact ⟨r, added, L, rfl, .inl ⟨hr, rfl, rfl⟩, (h.fr0 f).mono fun i _ hi => .inl hi, f.mono fun _ _ h => h.elim⟩
  by_cases ha : a < 1 ∨ 4095 < a
  · exact hno 1 (.inl ⟨ha, rfl⟩)
  · by_cases ht : ∃ t, t ∈ L ∧ t.id = id
    · exact hno 160 (.inr (.inl ⟨by omega, by omega, ht, rfl⟩))
    · have hne : ∀ t, t ∈ L → t.id ≠ id := fun t h1 h2 => ht ⟨t, h1, h2⟩
      by_cases hl : L.length = 1000
      · exact hno 161 (.inr (.inr ⟨by omega, by omega, hne, hl, rfl⟩))
      · have hl2 : L.length < 1000 := by have := h.len; omega
        have := whl_add_ok h hnow hadd id a.toNat hid.1 hid.2 (by omega) (by omega) hne hl2
        rw [Int.toNat_of_nonneg (by omega)] at this
        refine this.mono ?_
        rintro e w' ⟨rfl, h1, f⟩
        exact ⟨0, added + 1, _, rfl, .inr ⟨rfl, by omega, by omega, hne, hl2, rfl, rfl⟩, h1, f⟩
/-- What comes of Cancel. -/
def CanRes (L : List Tm) (id : Int) (r : Bool) (L' : List Tm) : Prop := (r = false ∧ L' = L ∧ ∀ t, t ∈ L → t.id ≠ id) ∨ (r = true ∧ ∃ t, t ∈ L ∧ t.id = id ∧ L' = noT t L)
def WCanE (w : World) (b : Nat) (F : Nat → Prop) (now added : Nat) (L : List Tm) (id : Int) (e : Ending) (w' : World) : Prop :=
  ∃ (r : Bool) (L' : List Tm), e = .returned (.bool r) ∧ CanRes L id r L' ∧ Whl w' b (Fn F w) now added L' ∧ Fr F w w'
theorem whl_cancel (h : Whl w b F now added L) (hnow : now < 1152921504606846976) (id : Int) (hid : I64 id) : Calls Try.prog 16 #[.pointer (some ⟨b, 0, none⟩), .int .i64 id] w (WCanE w b F now added L id) := by
  by_cases ht : ∃ t, t ∈ L ∧ t.id = id
  · obtain ⟨t, ht, rfl⟩ := ht
    refine (whl_cancel_yes h hnow t ht).mono ?_
    rintro e w' ⟨rfl, h1, f⟩
    exact ⟨true, _, rfl, .inr ⟨rfl, t, ht, rfl, rfl⟩, h1, f⟩
  · have hne : ∀ t, t ∈ L → t.id ≠ id := fun t h1 h2 => ht ⟨t, h1, h2⟩
    refine (whl_cancel_no h id hid.1 hid.2 hne).mono ?_
    rintro e w' ⟨rfl, f⟩
    exact ⟨false, L, rfl, .inl ⟨rfl, rfl, hne⟩, (h.fr0 f).mono fun i _ hi => .inl hi, f.mono fun _ _ h => h.elim⟩
end
theorem part_len (L : List Tm) (n : Nat) : (dueL L n).length + (leftL L n).length = L.length := by
  unfold dueL leftL
  induction L with
  | nil => rfl
  | cons x r ih => by_cases h : x.due = n <;> simp [h] at ih ⊢ <;> omega
end Go.Proofs.Ytgmeebpgncenmaa
