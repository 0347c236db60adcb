/- awake(): the chapter's example. -/
import Derived.Test.YtgmeebpgncenmaaWhl
import Derived.Test.YtgmeebpgncenmaaSame
namespace Go.Proofs.Ytgmeebpgncenmaa
open Go.RowKit

theorem fn_mono {B : Nat} {F : Nat → Prop} {w : World} (hF : ∀ i, F i → B ≤ i) (hB : B ≤ w.heap.size) : ∀ i, Fn F w i → B ≤ i := fun i hi => hi.elim (hF i) fun h => Nat.le_trans hB h
theorem idV_ints (L : List Tm) : L.map idV = ints (L.map (·.id)) := by simp [ints, idV]
theorem own_new (w : World) (e : TypeId) (xs : List Value) (hm : xs.length ≤ maxLen) : Own (w.alloc (.cells xs.toArray e)) e 1 (some ⟨w.heap.size, 0, none⟩) xs.length xs.length xs :=
  ⟨by simp, .inr ⟨w.heap.size, _, rfl, Blk.new w e xs.toArray, Nat.le_refl _, hm, by simp, by simp⟩⟩
theorem is_next_eq {L : List Tm} {now v v' : Nat} (h : IsNext L now v) (h' : IsNext L now v') : v = v' := by
  rcases h with ⟨h1, h2⟩ | ⟨⟨t, ht, hd⟩, h2, h3⟩ <;> rcases h' with ⟨h1', h2'⟩ | ⟨⟨t', ht', hd'⟩, h2', h3'⟩
  · omega
  · subst h2; cases ht'
  · subst h2'; cases ht
  · have a := h3 t' ht'
    have b := h3' t ht
    omega

set_option maxRecDepth 100000 in
set_option maxHeartbeats 3200000 in
theorem awake_any (w : World) : Calls Try.prog 8 #[] w fun e w' => e = .returned (.bool true) ∧ Below w.heap.size w w' := by
  go_enter Try.func8, Try.ntmps8
  go_wp2_with fail
  refine (whl_new w).mono ?_
  rintro e w1 ⟨rfl, h1, f1⟩
  have B1 := Lib.hid (show Below w.heap.size w w1 from f1.below (Nat.le_refl _) fun _ _ h => h.elim)
  generalize hbb : w.heap.size + 1 = b at *
  clear hbb f1
  go_wp2_with fail
  refine (whl_add_ok h1 (by omega) (by omega) 5 2 (by omega) (by omega) (by omega) (by omega) (by simp) (by simp)).mono ?_
  rintro e w2 ⟨rfl, h2, f2⟩
  have B2 := Lib.hid (below_fr B1.out f2 B1.out.size fun _ h => h)
  have h2 := h2.mono (G := fun i => w.heap.size ≤ i) fun i _ hi => fn_mono (fun _ h => h) B1.out.size i hi
  clear f2 h1
  go_wp2_with fail
  refine (whl_add_ok h2 (by omega) (by omega) 7 1 (by omega) (by omega) (by omega) (by omega) (by decide) (by decide)).mono ?_
  rintro e w3 ⟨rfl, h2', f3⟩
  have B3 := Lib.hid (below_fr B2.out f3 B2.out.size fun _ h => h)
  have h3 := h2'.mono (G := fun i => w.heap.size ≤ i) fun i _ hi => fn_mono (fun _ h => h) B2.out.size i hi
  clear f3 h2 h2'
  go_wp2_with fail
  refine (whl_add_ok h3 (by omega) (by omega) 6 2 (by omega) (by omega) (by omega) (by omega) (by decide) (by decide)).mono ?_
  rintro e w4 ⟨rfl, h3', f4⟩
  have B4 := Lib.hid (below_fr B3.out f4 B3.out.size fun _ h => h)
  have h4 := h3'.mono (G := fun i => w.heap.size ≤ i) fun i _ hi => fn_mono (fun _ h => h) B3.out.size i hi
  clear f4 h3 h3'
  go_wp2_with fail
  have hL : [] ++ [(⟨5, 0 + ((2 : Nat)), 0 + 1⟩ : Tm)] ++ [⟨7, 0 + 1, 0 + 1 + 1⟩] ++ [⟨6, 0 + 2, 0 + 1 + 1 + 1⟩] = [⟨5, 2, 1⟩, ⟨7, 1, 2⟩, ⟨6, 2, 3⟩] := rfl
  rw [hL] at h4
  clear hL
  refine (whl_add_no h4 5 9 160 (by omega) (by omega) (.inr (.inl ⟨by omega, by omega, ⟨⟨5, 2, 1⟩, by simp, rfl⟩, rfl⟩))).mono ?_
  rintro e w5 ⟨rfl, f5⟩
  have B5 := Lib.hid (below_fr B4.out f5 B4.out.size fun _ h => h.elim)
  have h5 := h4.fr0 f5
  clear f5 h4
  go_wp2_with fail
  refine (whl_next h5 (by omega)).mono ?_
  rintro e w6 ⟨v, rfl, hv, f6⟩
  have hv1 : v = 1 := is_next_eq hv (.inr ⟨⟨⟨7, 1, 2⟩, by simp, rfl⟩, by omega, by decide⟩)
  subst hv1
  have B6 := Lib.hid (below_fr B5.out f6 B5.out.size fun _ h => h.elim)
  have h6 := h5.fr0 f6
  clear f6 h5 hv
  go_wp2_with fail
  refine (whl_tick h6 (by omega)).mono ?_
  rintro e w7 ⟨R, rc, rfl, o7, h7', f7, n7⟩
  have B7 := Lib.hid (below_fr B6.out f7 B6.out.size fun _ h => h)
  have h7 := h7'.mono (G := fun i => w.heap.size ≤ i ∧ R ≠ some ⟨i, 0, none⟩) fun i _ hi => ⟨fn_mono (fun _ h => h) B6.out.size i hi.1, hi.2⟩
  have e7 : leftL [(⟨5, 2, 1⟩ : Tm), ⟨7, 1, 2⟩, ⟨6, 2, 3⟩] (0 + 1) = [⟨5, 2, 1⟩, ⟨6, 2, 3⟩] := rfl
  have d7 : dueL [(⟨5, 2, 1⟩ : Tm), ⟨7, 1, 2⟩, ⟨6, 2, 3⟩] (0 + 1) = [⟨7, 1, 2⟩] := rfl
  rw [e7] at h7
  rw [d7] at o7
  rw [d7]
  clear h7' f7 h6 e7 d7 n7
  go_wp2_with fail
  refine (whl_left_yes h7 (by omega) ⟨6, 2, 3⟩ (by simp)).mono ?_
  rintro e w8 ⟨rfl, f8⟩
  have B8 := Lib.hid (below_fr B7.out f8 B7.out.size fun _ h => h.elim)
  have h8 := h7.fr0 f8
  have o8 := o7.fr f8 fun _ _ => id
  clear f8 h7 o7
  go_wp2_with fail
  refine (whl_tick h8 (by omega)).mono ?_
  rintro e w9 ⟨R9, rc9, rfl, p9, h9', f9, n9⟩
  have B9 := Lib.hid (below_fr B8.out f9 B8.out.size fun _ h => h.1)
  have h9 := h9'.mono (G := fun i => w.heap.size ≤ i ∧ R ≠ some ⟨i, 0, none⟩ ∧ R9 ≠ some ⟨i, 0, none⟩) fun i _ hi => ⟨fn_mono (fun _ h => h.1) B8.out.size i hi.1, fun e => hi.1.elim (fun h => h.2 e) (fun h => by have := o8.lt e; omega), hi.2⟩
  have o9 := o8.fr f9 fun g hg h => h.2 hg
  have e9 : leftL [(⟨5, 2, 1⟩ : Tm), ⟨6, 2, 3⟩] (0 + 1 + 1) = [] := rfl
  have d9 : dueL [(⟨5, 2, 1⟩ : Tm), ⟨6, 2, 3⟩] (0 + 1 + 1) = [⟨5, 2, 1⟩, ⟨6, 2, 3⟩] := rfl
  rw [e9] at h9
  rw [d9] at p9
  rw [d9]
  clear h9' f9 h8 e9 d9 n9 o8
  go_wp2_with fail
  refine (whl_tick h9 (by omega)).mono ?_
  rintro e wa ⟨Ra, rca, rfl, pa, ha', fa, na⟩
  have Ba := Lib.hid (below_fr B9.out fa B9.out.size fun _ h => h.1)
  have ha := ha'.mono (G := fun i => w.heap.size ≤ i ∧ R ≠ some ⟨i, 0, none⟩ ∧ R9 ≠ some ⟨i, 0, none⟩) fun i _ hi => ⟨fn_mono (fun _ h => h.1) B9.out.size i hi.1, fun e => hi.1.elim (fun h => h.2.1 e) (fun h => by have := o9.lt e; omega), fun e => hi.1.elim (fun h => h.2.2 e) (fun h => by have := p9.lt e; omega)⟩
  have oa := o9.fr fa fun g hg h => h.2.1 hg
  have qa := p9.fr fa fun g hg h => h.2.2 hg
  have ea : leftL ([] : List Tm) (0 + 1 + 1 + 1) = [] := rfl
  have da : dueL ([] : List Tm) (0 + 1 + 1 + 1) = [] := rfl
  rw [ea] at ha
  rw [da]
  clear ha' fa h9 ea da na o9 p9 pa
  go_wp2_with fail
  refine (whl_add_no ha 1 0 1 (by omega) (by omega) (.inl ⟨by omega, rfl⟩)).mono ?_
  rintro e wb ⟨rfl, fb⟩
  have Bb := Lib.hid (below_fr Ba.out fb Ba.out.size fun _ h => h.elim)
  have hb := ha.fr0 fb
  have ob := oa.fr fb fun _ _ => id
  have qb := qa.fr fb fun _ _ => id
  clear fb ha oa qa
  go_wp2_with fail
  refine (whl_add_no hb 1 4096 1 (by omega) (by omega) (.inl ⟨by omega, rfl⟩)).mono ?_
  rintro e wc ⟨rfl, fc⟩
  have Bc := Lib.hid (below_fr Bb.out fc Bb.out.size fun _ h => h.elim)
  have hc := hb.fr0 fc
  have oc := ob.fr fc fun _ _ => id
  have qc := qb.fr fc fun _ _ => id
  clear fc hb ob qb
  go_wp2_with fail
  refine (same_ints (xs := [7]) (ys := [7]) (oc.fr (S := fun _ => False) ((Fr.refl _ _).alloc _) fun _ _ => id) (own_new wc 3 [.int .i64 7] (by decide)) rfl rfl (by decide) true rfl).mono ?_
  rintro e wd ⟨rfl, kd, rfl⟩
  have qd := qc.fr (S := fun _ => False) (((Fr.refl _ wc).alloc (.cells #[.int .i64 7] 3)).drewN kd) fun _ _ => id
  have hd := hc.fr0 (((Fr.refl _ wc).alloc (.cells #[.int .i64 7] 3)).drewN kd)
  have Bd := Lib.hid (below_fr Bc.out (((Fr.refl (fun _ => False) wc).alloc (.cells #[.int .i64 7] 3)).drewN kd) Bc.out.size fun _ h => h.elim)
  generalize (wc.alloc (.cells #[.int .i64 7] 3)).drewN kd = wd at *
  clear hc oc qc
  go_wp2_with fail
  refine (same_ints (xs := [5, 6]) (ys := [5, 6]) (qd.fr (S := fun _ => False) ((Fr.refl _ _).alloc _) fun _ _ => id) (own_new wd 3 [.int .i64 5, .int .i64 6] (by decide)) rfl rfl (by decide) true rfl).mono ?_
  rintro e we ⟨rfl, ke, rfl⟩
  have he := hd.fr0 (((Fr.refl _ wd).alloc (.cells #[.int .i64 5, .int .i64 6] 3)).drewN ke)
  have Be := Lib.hid (below_fr Bd.out (((Fr.refl (fun _ => False) wd).alloc (.cells #[.int .i64 5, .int .i64 6] 3)).drewN ke) Bd.out.size fun _ h => h.elim)
  generalize (wd.alloc (.cells #[.int .i64 5, .int .i64 6] 3)).drewN ke = we at *
  clear hd qd
  go_wp2_with fail
  refine (whl_now he).mono ?_
  rintro e wf ⟨rfl, rfl⟩
  go_wp2_with fail
  refine (whl_len he).mono ?_
  rintro e wg ⟨rfl, rfl⟩
  go_wp2_with fail
  go_ret
  exact ⟨rfl, Be.out⟩
end Go.Proofs.Ytgmeebpgncenmaa
