/- A few paths sorted by their order: the library's sort by insertion, at the bound method. -/
import Derived.Test.YtnklbeigikcfkaaGreatDoorBe
import Derived.Test.YtnklbeigikcfkaaGreatDoorFl
import Derived.Shelf.Abstract
namespace Go.Proofs.YtnklbeigikcfkaaGreatDoor
open Go.Proofs Go.RowKit
instance : Cells Pa 7 where
  cs := Pa.cs
  len _ := rfl
  pos := by decide
  one x v hv := by simp [Pa.cs] at hv; rcases hv with rfl | rfl | rfl | rfl | rfl | rfl | rfl <;> rfl
theorem betP_ntrans {x y z : Pa} (h : betP x y = false) (k : betP y z = false) : betP x z = false := by
  cases e : betP x z with
  | false => rfl
  | true =>
    unfold betP at h k e
    by_cases e1 : keyP x = keyP y
    · rw [e1, k] at e; cases e
    · rcases lexB_total (x := keyP x) (y := keyP y) rfl e1 with q | q
      · rw [q] at h; cases h
      · rw [lexB_trans q e] at k; cases k
theorem Own.e7 {w : World} {e : TypeId} {g n c : Nat} {l : List Pa} (h : Own w e 7 (some ⟨g, 0, none⟩) n c (flat l)) (hn : l.length = n) {j : Nat} {x : Pa} (hj : l[j]? = some x) :
    w.cell? ⟨g, j * 7, none⟩ = some (.int .i64 x.proto) ∧ w.cell? ⟨g, j * 7 + 1, none⟩ = some (.int .i64 x.metric) ∧ w.cell? ⟨g, j * 7 + 2, none⟩ = some (.bool x.via.six) ∧ w.cell? ⟨g, j * 7 + 3, none⟩ = some (.int .u64 (x.via.hi : Int)) ∧
      w.cell? ⟨g, j * 7 + 4, none⟩ = some (.int .u64 (x.via.lo : Int)) ∧ w.cell? ⟨g, j * 7 + 5, none⟩ = some (.int .i64 x.port) ∧ w.cell? ⟨g, j * 7 + 6, none⟩ = some (.bool x.away) :=
  ⟨h.elem hn hj 0 (by decide), h.elem hn hj 1 (by decide), h.elem hn hj 2 (by decide), h.elem hn hj 3 (by decide), h.elem hn hj 4 (by decide), h.elem hn hj 5 (by decide), h.elem hn hj 6 (by decide)⟩
theorem sets7 (w : World) (g o : Nat) (p m : Int) (q : Bool) (h l : Nat) (k : Int) (a : Bool) : w.setCells g o (Pa.cs ⟨p, m, ⟨q, h, l⟩, k, a⟩) =
    ((((((w.setCell ⟨g, o, none⟩ (.int .i64 p)).setCell ⟨g, o + 1, none⟩ (.int .i64 m)).setCell ⟨g, o + 2, none⟩ (.bool q)).setCell ⟨g, o + 3, none⟩ (.int .u64 (h : Int))).setCell ⟨g, o + 4, none⟩ (.int .u64 (l : Int))).setCell ⟨g, o + 5, none⟩ (.int .i64 k)).setCell ⟨g, o + 6, none⟩ (.bool a) := rfl
theorem ordP_neg {x y : Pa} (h : betP x y = true) : ordP x y = -1 := if_pos h
theorem ordP_pos {x y : Pa} (h : betP x y = false) : 0 ≤ ordP x y := by
  unfold ordP
  rw [if_neg (by rw [h]; decide)]
  split <;> decide
def Upw (l : List Pa) : Prop := l.Pairwise fun x y => betP y x = false
/-- The one in hand stands behind whoever is not worse. -/
theorem upw_in {u v : List Pa} {b : Pa} (h : Upw (u ++ v)) (hv : ∀ y ∈ v, betP y b = false) (hu : ∀ x ∈ u, betP b x = false) : Upw (u ++ b :: v) := by
  unfold Upw at *
  rw [List.pairwise_append] at h ⊢
  obtain ⟨h1, h2, h3⟩ := h
  refine ⟨h1, List.pairwise_cons.2 ⟨hv, h2⟩, fun x hx y hy => ?_⟩
  rcases List.mem_cons.1 hy with rfl | hy
  · exact hu x hx
  · exact h3 x hx y hy
theorem upw_stop {u' v : List Pa} {a b : Pa} (h : Upw ((u' ++ [a]) ++ v)) (hv : ∀ y ∈ v, betP y b = false) (hab : betP b a = false) : Upw ((u' ++ [a]) ++ b :: v) := by
  refine upw_in h hv fun x hx => ?_
  rcases List.mem_append.1 hx with hx | hx
  · have h1 : Upw (u' ++ [a]) := (List.pairwise_append.1 h).1
    exact betP_ntrans hab ((List.pairwise_append.1 h1).2.2 x hx a List.mem_cons_self)
  · rw [List.mem_singleton.1 hx]
    exact hab
theorem swp_perm (u' r : List Pa) (a b : Pa) : (u' ++ b :: a :: r).Perm (u' ++ a :: b :: r) := List.Perm.append_left u' (List.Perm.swap a b r)
section
variable {w : World}
set_option maxHeartbeats 12800000 in
set_option maxRecDepth 100000 in
theorem ins_ (g n c : Nat) (l : List Pa) (hok : ∀ x ∈ l, x.ok) (hd : Dst w) (hn : l.length = n) (hn12 : n ≤ 12) (ho : Own w 34 7 (some ⟨g, 0, none⟩) n c (flat l)) (hg : g ≠ 0) :
    Calls Tryz.prog 77 #[.slice (some ⟨g, 0, none⟩) n c, .int .i64 0, .int .i64 n, .func (.func 41) #[.agg #[]] #[]] w fun e w' =>
      e = .returned (.tuple #[]) ∧ ∃ d : List Pa, d.Perm l ∧ Upw d ∧ Own w' 34 7 (some ⟨g, 0, none⟩) n c (flat d) ∧ Fr (fun i => i = g) w w' := by
  have HOK := Lib.hid hok
  have HD := Lib.hid hd
  have HN := Lib.hid hn
  have HO := Lib.hid ho
  have HG := Lib.hid hg
  clear hok hd hn ho hg
  go_enter Tryz.func77, Tryz.ntmps77
  go_wp2_with fail
  go_loopw [8] (fun vi wr => ∃ (i : Nat) (s r : List Pa), vi = .int .i64 (i : Int) ∧ i ≤ n + 1 ∧ (i ≤ n ∨ n = 0) ∧ s.length = min i n ∧ Upw s ∧ (s ++ r).Perm l ∧ Own wr 34 7 (some ⟨g, 0, none⟩) n c (flat (s ++ r)) ∧ Fr (fun k => k = g) w wr) (fun vi _ => n + 1 - (intOf vi).toNat)
  case atStart =>
    refine ⟨1, l.take 1, l.drop 1, rfl, by omega, by omega, by rw [List.length_take, HN.out], ?_, by rw [List.take_append_drop], by rw [List.take_append_drop]; exact HO.out, Fr.refl _ _⟩
    cases l with
    | nil => exact List.Pairwise.nil
    | cons x r => exact List.pairwise_singleton _ _
  case round =>
    obtain ⟨i, s, r, rfl, hi1, hi2, hs, hup, hp, ho, hf⟩ := hrel
    by_cases hin : i < n
    · have hiI : (i : Int) < (n : Int) := by omega
      obtain ⟨b, r, rfl⟩ : ∃ b r', r = b :: r' := by
        cases r with
        | nil =>
          have := hp.length_eq
          rw [List.append_nil, hs, HN.out] at this
          omega
        | cons b r => exact ⟨b, r, rfl⟩
      have HUP := Lib.hid hup
      have HP := Lib.hid hp
      have HOW := Lib.hid ho
      have HF := Lib.hid hf
      have HS := Lib.hid hs
      clear hup hp ho hf hs hi2
      go_wp2_with fail
      go_loopw [9] (fun vj wr => ∃ (j : Nat) (u v : List Pa), vj = .int .i64 (j : Int) ∧ u.length = j ∧ u.length + v.length = i ∧ Upw (u ++ v) ∧ (∀ y ∈ v, betP y b = false) ∧ (u ++ b :: (v ++ r)).Perm l ∧ Own wr 34 7 (some ⟨g, 0, none⟩) n c (flat (u ++ b :: (v ++ r))) ∧ Fr (fun k => k = g) w wr) (fun vj _ => (intOf vj).toNat)
      case atStart => exact ⟨i, s, [], rfl, by rw [HS.out]; omega, by rw [HS.out]; simp; omega, by rw [List.append_nil]; exact HUP.out, nofun, HP.out, HOW.out, HF.out⟩
      case round =>
        obtain ⟨j, u, v, rfl, hu, huv, hup, hv, hp, ho, hf⟩ := hrel
        by_cases hj : j = 0
        · subst hj
          obtain rfl : u = [] := List.length_eq_zero_iff.1 hu
          have HUP := Lib.hid hup
          have HV := Lib.hid hv
          have HP := Lib.hid hp
          have HOW := Lib.hid ho
          have HF := Lib.hid hf
          have HUV := Lib.hid huv
          clear hup hv hp ho hf huv hu
          go_wp2_with fail
          refine wp_region_fam (by kernel_rfl) (by kernel_rfl) ?_
          repeat (go_big_quiet_step (fail))
          first | refine wpQuiet_nil ?_ | (go_big_quiet_want; go_big_quiet_op; done)
          rintro _ ⟨xq, rfl⟩
          have HOX := Lib.hid (HOW.out.fr xq.fr fun _ _ => id)
          have HFX := Lib.hid (HF.out.trans (xq.fr.mono fun _ _ h => h.elim))
          generalize xq.w = w2 at *
          go_wp2_with fail
          go_roundw
          case rel =>
            refine ⟨i + 1, b :: v, r, by go_num, by omega, by omega, ?_, upw_in (u := []) HUP.out HV.out nofun, HP.out, HOX.out, HFX.out⟩
            have := HUV.out
            simp only [List.length_nil, List.length_cons] at this ⊢
            omega
          case measure => simp [intOf]; omega
        · obtain ⟨u, a, rfl⟩ : ∃ u' a, u = u' ++ [a] := by
            rcases List.eq_nil_or_concat u with rfl | ⟨u', a, rfl⟩
            · exact absurd hu.symm hj
            · exact ⟨u', a, by rw [List.concat_eq_append]⟩
          obtain ⟨jp, hjp⟩ : ∃ jp, jp = u.length := ⟨_, rfl⟩
          obtain rfl : j = jp + 1 := by rw [← hu, hjp]; simp
          have ed : (u ++ [a]) ++ b :: (v ++ r) = u ++ a :: b :: (v ++ r) := by simp
          rw [ed] at hp ho
          have hln : (u ++ a :: b :: (v ++ r)).length = n := hp.length_eq.trans HN.out
          have ga : (u ++ a :: b :: (v ++ r))[jp]? = some a := by rw [hjp, List.getElem?_append_right (Nat.le_refl _)]; simp
          have gb : (u ++ a :: b :: (v ++ r))[jp + 1]? = some b := by rw [hjp, List.getElem?_append_right (by omega)]; simp
          have hjn : jp + 1 < n := by rw [← hln, hjp]; simp
          have oka := HOK.out a (hp.mem_iff.1 (by simp))
          have okb := HOK.out b (hp.mem_iff.1 (by simp))
          have HDR := Lib.hid (HD.out.fr hf fun e => HG.out e.symm)
          have c35 := fun (x : Fam wr) => ord_ (w := x.w) (.agg #[]) b a okb oka (HDR.out.n0 x.fr) rfl
          have HEA := Lib.hid fun x : Fam wr => (ho.fr x.fr fun _ _ => id).e7 hln ga
          have HEB := Lib.hid fun x : Fam wr => (ho.fr x.fr fun _ _ => id).e7 hln gb
          have HOW := Lib.hid ho
          have HF := Lib.hid hf
          have HP := Lib.hid hp
          have HUP := Lib.hid hup
          have HV := Lib.hid hv
          have HJP := Lib.hid hjp
          have HUV := Lib.hid huv
          have HLN := Lib.hid hln
          have HGA := Lib.hid ga
          have HGB := Lib.hid gb
          clear ho hf hp hup hv hjp huv hln ga gb oka okb ed hu hj
          have hwp : IntKind.i64.wrap (jp : Int) = (jp : Int) := IntWalk.i64_in _ (by omega)
          have jz : (jp : Int) + 1 < (n : Int) := by omega
          have jz1 : (jp : Int) < (n : Int) := by omega
          have p0 : (0 : Int) < (jp : Int) + 1 := by omega
          have e0 : ((jp : Int) + 1).toNat = jp + 1 := by omega
          obtain ⟨bp, bm, ⟨bs, bh, bl⟩, bo, ba⟩ := b
          obtain ⟨ap, am, ⟨aq, ah, al⟩, ao, aa⟩ := a
          unfold paV at c35
          have zb0 := fun x : Fam wr => (HEB.out x).1
          have zb1 := fun x : Fam wr => (HEB.out x).2.1
          have zb2 := fun x : Fam wr => (HEB.out x).2.2.1
          have zb3 := fun x : Fam wr => (HEB.out x).2.2.2.1
          have zb4 := fun x : Fam wr => (HEB.out x).2.2.2.2.1
          have zb5 := fun x : Fam wr => (HEB.out x).2.2.2.2.2.1
          have zb6 := fun x : Fam wr => (HEB.out x).2.2.2.2.2.2
          have za0 := fun x : Fam wr => (HEA.out x).1
          have za1 := fun x : Fam wr => (HEA.out x).2.1
          have za2 := fun x : Fam wr => (HEA.out x).2.2.1
          have za3 := fun x : Fam wr => (HEA.out x).2.2.2.1
          have za4 := fun x : Fam wr => (HEA.out x).2.2.2.2.1
          have za5 := fun x : Fam wr => (HEA.out x).2.2.2.2.2.1
          have za6 := fun x : Fam wr => (HEA.out x).2.2.2.2.2.2
          simp only at *
          obtain ⟨q, hq⟩ : ∃ q, q = ordP ⟨bp, bm, ⟨bs, bh, bl⟩, bo, ba⟩ ⟨ap, am, ⟨aq, ah, al⟩, ao, aa⟩ := ⟨_, rfl⟩
          rw [← hq] at c35
          cases hbet : betP ⟨bp, bm, ⟨bs, bh, bl⟩, bo, ba⟩ ⟨ap, am, ⟨aq, ah, al⟩, ao, aa⟩ with
          | true =>
            have hq0 : q < 0 := by rw [hq, ordP_neg hbet]; decide
            have HBET := Lib.hid hbet
            clear hbet hq
            go_wp2_with fail
            refine wp_region_fam (by kernel_rfl) (by kernel_rfl) ?_
            have eg : ∀ args w, (callFunc 41 args).run Tryz.prog w = .ok (.enter 41 args) w := enters_of Tryz.func41 (by kernel_rfl) rfl
            repeat (go_big_quiet_step ((first
              | (go_at_fn 41; exact fam_call (c35 _))
              | (go_at_call 41; exact fam_call (c35 _)))))
            first | refine wpQuiet_nil ?_ | (go_big_quiet_want; go_big_quiet_op; done)
            rintro _ ⟨xq, rfl⟩
            obtain ⟨b0, b1, b2, b3, b4, b5, b6⟩ := HEB.out xq
            obtain ⟨a0, a1, a2, a3, a4, a5, a6⟩ := HEA.out xq
            have hfz : ∀ k, xq.w.frozen? ⟨g, k, none⟩ = false := (HOW.out.fr xq.fr fun _ _ => id).cell_none
            have HOX := Lib.hid (HOW.out.fr xq.fr fun _ _ => id)
            have HFX := Lib.hid (HF.out.trans (xq.fr.mono fun _ _ h => h.elim))
            clear zb0 zb1 zb2 zb3 zb4 zb5 zb6 za0 za1 za2 za3 za4 za5 za6 HEA HEB c35
            generalize xq.w = w2 at *
            go_wp2_with fail
            have HO2 : Hid (Own _ 34 7 (some ⟨g, 0, none⟩) n c (flat (u ++ ⟨bp, bm, ⟨bs, bh, bl⟩, bo, ba⟩ :: ⟨ap, am, ⟨aq, ah, al⟩, ao, aa⟩ :: (v ++ r)))) := Lib.hid (set_two u (v ++ r) _ _ HJP.out ▸ (HOX.out.put (i := jp + 1) (by rw [HLN.out]; exact hjn) (⟨ap, am, ⟨aq, ah, al⟩, ao, aa⟩ : Pa)).put (i := jp) (by rw [List.length_set, HLN.out]; omega) (⟨bp, bm, ⟨bs, bh, bl⟩, bo, ba⟩ : Pa))
            have HF2 := Lib.hid (Fr.setsC (g := g) (Pa.cs ⟨bp, bm, ⟨bs, bh, bl⟩, bo, ba⟩) (jp * 7) (Fr.setsC (g := g) (Pa.cs ⟨ap, am, ⟨aq, ah, al⟩, ao, aa⟩) ((jp + 1) * 7) HFX.out (.inl rfl)) (.inl rfl))
            have ho2 := HO2.out
            have hf2 := HF2.out
            simp only [Cells.cs] at ho2
            rw [sets7, sets7] at ho2 hf2
            have HO3 := Lib.hid ho2
            have HF3 := Lib.hid hf2
            clear HO2 HF2 ho2 hf2 HOX HFX
            go_region_with fail
            all_goals
              clear b0 b1 b2 b3 b4 b5 b6 a0 a1 a2 a3 a4 a5 a6 hfz
              generalize World.setCell (World.setCell (World.setCell (World.setCell (World.setCell (World.setCell (World.setCell (World.setCell (World.setCell (World.setCell (World.setCell (World.setCell (World.setCell (World.setCell w2 _ _) _ _) _ _) _ _) _ _) _ _) _ _) _ _) _ _) _ _) _ _) _ _) _ _) _ _ = w9 at *
              go_wp2_with fail
              go_roundw
              case rel =>
                refine ⟨jp, u, ⟨ap, am, ⟨aq, ah, al⟩, ao, aa⟩ :: v, by go_num, HJP.out.symm, ?_, ?_, ?_, ?_, HO3.out, HF3.out.drew⟩
                · have := HUV.out
                  simp only [List.length_append, List.length_cons, List.length_nil] at this ⊢
                  omega
                · have := HUP.out
                  rwa [List.append_assoc] at this
                · intro y hy
                  rcases List.mem_cons.1 hy with rfl | hy
                  · exact betP_asymm HBET.out
                  · exact HV.out y hy
                · exact (swp_perm _ _ _ _).trans HP.out
              case measure => simp [intOf]
          | false =>
            have hq0 : ¬ q < 0 := by
              have := ordP_pos hbet
              omega
            have HBET := Lib.hid hbet
            clear hbet hq
            go_wp2_with fail
            refine wp_region_fam (by kernel_rfl) (by kernel_rfl) ?_
            have eg : ∀ args w, (callFunc 41 args).run Tryz.prog w = .ok (.enter 41 args) w := enters_of Tryz.func41 (by kernel_rfl) rfl
            repeat (go_big_quiet_step ((first
              | (go_at_fn 41; exact fam_call (c35 _))
              | (go_at_call 41; exact fam_call (c35 _)))))
            first | refine wpQuiet_nil ?_ | (go_big_quiet_want; go_big_quiet_op; done)
            rintro _ ⟨xq, rfl⟩
            have HOX := Lib.hid (HOW.out.fr xq.fr fun _ _ => id)
            have HFX := Lib.hid (HF.out.trans (xq.fr.mono fun _ _ h => h.elim))
            clear zb0 zb1 zb2 zb3 zb4 zb5 zb6 za0 za1 za2 za3 za4 za5 za6 HEA HEB c35
            generalize xq.w = w2 at *
            go_wp2_with fail
            go_roundw
            case rel =>
              refine ⟨i + 1, (u ++ [⟨ap, am, ⟨aq, ah, al⟩, ao, aa⟩]) ++ ⟨bp, bm, ⟨bs, bh, bl⟩, bo, ba⟩ :: v, r, by go_num, by omega, by omega, ?_, upw_stop HUP.out HV.out HBET.out, ?_, ?_, HFX.out⟩
              · have := HUV.out
                simp only [List.length_append, List.length_cons, List.length_nil] at this ⊢
                omega
              · have := HP.out
                simpa using this
              · have := HOX.out
                simpa using this
            case measure => simp [intOf]; omega
    · have hiI : ¬ ((i : Int) < (n : Int)) := by omega
      have HUP := Lib.hid hup
      have HP := Lib.hid hp
      have HOW := Lib.hid ho
      have HF := Lib.hid hf
      have HS := Lib.hid hs
      clear hup hp ho hf hs
      go_wp2_with fail
      go_end0
      have e : r = [] := by
        have := HP.out.length_eq
        rw [List.length_append, HS.out, HN.out] at this
        exact List.length_eq_zero_iff.1 (by omega)
      subst e
      have hp := HP.out
      have ho := HOW.out
      rw [List.append_nil] at hp ho
      exact ⟨rfl, s, hp, HUP.out, ho, HF.out⟩
end
end Go.Proofs.YtnklbeigikcfkaaGreatDoor
