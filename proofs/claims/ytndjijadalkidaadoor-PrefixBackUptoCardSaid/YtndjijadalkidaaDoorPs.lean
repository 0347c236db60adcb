/- addr.Parse, prefix.Parse of any text. -/
import Derived.Test.YtndjijadalkidaaDoorSx
namespace Go.Proofs.YtndjijadalkidaaDoor
open Go.Proofs Go.Shelf Go.RowKit
/-- What a text is read as: four numbers, or groups; the error's number. -/
def parseR (F : Option Nat) (S : Option Ad) : Ad × Int := match F, S with
  | some lo, _ => (⟨false, 0, lo⟩, 0)
  | none, some a => (a, 0)
  | none, none => (⟨false, 0, 0⟩, 20)
section
variable {w : World}
set_option maxHeartbeats 3200000 in
set_option maxRecDepth 100000 in
theorem parse_ (s : ByteArray) (F : Option Nat) (S : Option Ad) (m : Int) (hm : Mx m w) (hsy : Sy w)
    (h56 : ∀ W : World, Mx m W → Sy W → Calls Tryd.prog 56 #[.string s] W fun e w' => ∃ x, e = .returned (.tuple #[adV ⟨false, 0, x⟩, .bool F.isSome]) ∧ (∀ lo, F = some lo → x = lo) ∧ Fr N0 W w')
    (h57 : ∀ W : World, Mx m W → Sy W → Calls Tryd.prog 57 #[.string s] W fun e w' => e = .returned (.tuple #[adV (S.getD ⟨false, 0, 0⟩), .bool S.isSome]) ∧ Fr N0 W w') :
    Calls Tryd.prog 41 #[.string s] w fun e w' => e = .returned (.tuple #[adV (parseR F S).1, .int .i64 (parseR F S).2]) ∧ Fr N0 w w' := by
  obtain ⟨b, hb⟩ : ∃ b, b = F.isSome := ⟨_, rfl⟩
  obtain ⟨c, hc⟩ : ∃ c, c = S.isSome := ⟨_, rfl⟩
  obtain ⟨a, ha⟩ : ∃ a, a = S.getD ⟨false, 0, 0⟩ := ⟨_, rfl⟩
  rw [← hb] at h56
  rw [← hc, ← ha] at h57
  obtain ⟨r, hr⟩ : ∃ r, r = parseR F S := ⟨_, rfl⟩
  rw [← hr]
  have hcase : (b = true ∧ r.2 = 0 ∧ r.1.six = false ∧ r.1.hi = 0 ∧ ∀ x, (∀ lo, F = some lo → x = lo) → x = r.1.lo) ∨ (b = false ∧ c = true ∧ r = (a, 0)) ∨ (b = false ∧ c = false ∧ r = (⟨false, 0, 0⟩, 20)) := by
    unfold parseR at hr
    cases F with
    | some lo => simp only at hr; subst hr; exact .inl ⟨hb, rfl, rfl, rfl, fun x h => h lo rfl⟩
    | none =>
      cases S with
      | some q => simp only at hr; exact .inr (.inl ⟨hb, hc, by rw [hr, ha]; rfl⟩)
      | none => simp only at hr; exact .inr (.inr ⟨hb, hc, hr⟩)
  clear hr hb hc ha
  obtain ⟨qs, qh, ql⟩ := a
  obtain ⟨⟨rs, rh, rl⟩, rn⟩ := r
  unfold adV at h56 h57 ⊢
  simp only at h56 h57 hcase ⊢
  go_enter Tryd.func41, Tryd.ntmps41
  go_wp2_with fail
  have HA1 := Lib.hid (Blk.new w 24 #[Value.bool false, Value.int .u64 0, Value.int .u64 0])
  have HF1 := Lib.hid (Fr.alloc (Fr.refl N0 w) (.cells #[Value.bool false, Value.int .u64 0, Value.int .u64 0] 24))
  generalize w.alloc _ = w1 at *
  obtain ⟨g1, hg1⟩ : ∃ g1, g1 = w.heap.size := ⟨_, rfl⟩
  rw [← hg1] at HA1 ⊢
  have HG1 : Hid (w.heap.size ≤ g1) := Lib.hid (by omega)
  clear hg1
  have HZ1 : Hid (∀ W, Fr N0 w1 W → Blk W g1 24 #[Value.bool false, Value.int .u64 0, Value.int .u64 0]) := Lib.hid fun W hf => HA1.out.fr hf id
  have F := Lib.hid (Fr.refl N0 w1)
  refine (h56 _ (hm.fr HF1.out) (hsy.fr HF1.out)).mono ?_
  rintro e w2 ⟨x, rfl, hx, hf2⟩
  have HX := Lib.hid hx
  have F2 := Lib.hid hf2
  have B4 := Lib.hid (Blk.new w2 24 #[.bool false, .int .u64 0, .int .u64 (x : Int)])
  have F4 := Lib.hid (hf2.alloc (.cells #[.bool false, .int .u64 0, .int .u64 (x : Int)] 24))
  have B1 := Lib.hid ((HZ1.out _ hf2).alloc (.cells #[.bool false, .int .u64 0, .int .u64 (x : Int)] 24))
  have HNE := Lib.hid (show g1 ≠ w2.heap.size from by have := (HZ1.out _ hf2).lt; omega)
  have HG4 := Lib.hid (show w.heap.size ≤ w2.heap.size from (HF1.out.trans hf2).size)
  clear hx hf2 F2 F HA1 HZ1 h56
  rcases hcase with ⟨rfl, e2, es, eh, he⟩ | ⟨rfl, rfl, he⟩ | ⟨rfl, rfl, he⟩
  · have HR := Lib.hid (show rs = false ∧ rh = 0 ∧ x = rl ∧ rn = 0 from ⟨es, eh, he x HX.out, e2⟩)
    clear e2 es eh he
    go_wp2_with (refine wpList_store_row rfl 24 _ _ rfl g1 _ rfl rfl _ _ B1.out rfl rfl (by simp [Value.oneCell']) ?_)
    refine ret_cell2 rfl rfl (B1.out.row _) Tryd.underlying24 rfl ⟨?_, Fr.setRow (HF1.out.trans F4.out) (.inr HG1.out) _⟩
    obtain ⟨rfl, rfl, rfl, rfl⟩ := HR.out
    rfl
  all_goals
    have HR := Lib.hid he
    clear he
    have h57 := fun W (hf : Fr N0 w1 W) => h57 W (hm.fr (HF1.out.trans hf)) (hsy.fr (HF1.out.trans hf))
    have k57 := h57 _ F4.out
    have B4' := B4
    have N14 := HNE.out
    clear h57
    go_wp2_with fail
    generalize w2.alloc _ = w4 at *
    generalize w2.heap.size = g4 at *
    refine k57.mono ?_
    rintro e w5 ⟨rfl, hf5⟩
    have C4 := Lib.hid (B4.out.fr hf5 id)
    have C1 := Lib.hid (B1.out.fr hf5 id)
    have F5 := Lib.hid (F4.out.trans hf5)
    go_wp2_with (first
      | (refine wpList_store_row rfl 24 _ _ rfl g4 _ rfl rfl _ _ C4.out rfl rfl (by simp [Value.oneCell']) ?_)
      | (refine wpList_load_row rfl 24 _ rfl g4 rfl 24 _ (0, 0) _ (C4.out.row _) Tryd.underlying24 rfl rfl ?_)
      | (refine wpList_store_row rfl 24 _ _ rfl g1 _ rfl rfl _ _ (C1.out.fr (Fr.setRow (Fr.refl (fun i => i = g4) _) (.inl rfl) _) N14) rfl rfl (by simp [Value.oneCell']) ?_))
    refine ret_cell2 rfl rfl ((C1.out.fr (Fr.setRow (Fr.refl (fun i => i = g4) _) (.inl rfl) _) N14).row _) Tryd.underlying24 rfl ⟨?_, Fr.setRow (Fr.setRow (HF1.out.trans F5.out) (.inr HG4.out) _) (.inr HG1.out) _⟩
    have h := HR.out
    simp only [Prod.mk.injEq, Ad.mk.injEq] at h
    obtain ⟨⟨rfl, rfl, rfl⟩, rfl⟩ := h
    rfl
end
end Go.Proofs.YtndjijadalkidaaDoor
