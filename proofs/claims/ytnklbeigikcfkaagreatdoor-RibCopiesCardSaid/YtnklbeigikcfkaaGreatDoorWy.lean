/- rib.way: where a path of the same way stands. -/
import Derived.Test.YtnklbeigikcfkaaGreatDoorSo
import Derived.Shelf.Abstract
namespace Go.Proofs.YtnklbeigikcfkaaGreatDoor
open Go.Proofs Go.RowKit
section
variable {w : World}
set_option maxHeartbeats 3200000 in
set_option maxRecDepth 100000 in
theorem way1_ (gx : Nat) (x y : Pa) (hx : Blk w gx 34 #[.int .i64 x.proto, .int .i64 x.metric, .bool x.via.six, .int .u64 (x.via.hi : Int), .int .u64 (x.via.lo : Int), .int .i64 x.port, .bool x.away]) :
    Calls Tryz.prog 62 #[paV y, .pointer (some ⟨gx, 0, none⟩)] w fun e w' => e = .returned (.bool (sameW x y)) ∧ Fr N0 w w' := by
  have HS := Lib.hid (show sameW x y = (decide (x.proto = y.proto) && decide (x.via = y.via) && decide (x.port = y.port) && decide (x.away = y.away)) from rfl)
  generalize sameW x y = r at *
  obtain ⟨p, m, v, o, a⟩ := x
  obtain ⟨p', m', v', o', a'⟩ := y
  simp only at *
  obtain ⟨d, hd⟩ : ∃ d, d = decide (v = v') := ⟨_, rfl⟩
  have E : ∀ W, Sem.run Tryz.prog (binOp .eql 30 (adV v) (adV v')) W = .ok (.bool d) W := fun W => hd ▸ eql_ad v v' W
  have EG : ∀ X Y W, Sem.run Tryz.prog (eqGuard .eql 30 X Y (adV v) (adV v')) W = .ok () W := fun X Y W => guard_ad .eql X Y v v' W
  rw [← hd] at HS
  clear hd
  obtain ⟨s, h, l⟩ := v
  obtain ⟨s', h', l'⟩ := v'
  unfold adV at E EG
  simp only at *
  have HX := Lib.hid hx
  clear hx
  go_enter Tryz.func62, Tryz.ntmps62
  unfold paV
  have HA := Lib.hid (HX.out.alloc (.cells #[.int .i64 p', .int .i64 m', .bool s', .int .u64 (h' : Int), .int .u64 (l' : Int), .int .i64 o', .bool a'] 34))
  have HB := Lib.hid (Blk.new w 34 #[.int .i64 p', .int .i64 m', .bool s', .int .u64 (h' : Int), .int .u64 (l' : Int), .int .i64 o', .bool a'])
  have HF := Lib.hid ((Fr.refl N0 w).alloc (.cells #[.int .i64 p', .int .i64 m', .bool s', .int .u64 (h' : Int), .int .u64 (l' : Int), .int .i64 o', .bool a'] 34))
  obtain ⟨x0, x1, x2, x3, x4, x5, x6⟩ := HA.out.c7
  obtain ⟨y0, y1, y2, y3, y4, y5, y6⟩ := HB.out.c7
  have key : ∀ (b1 b3 : Bool), decide (p = p') = b1 → decide (o = o') = b3 → (b1 = false ∨ (b1 = true ∧ d = false) ∨ (b1 = true ∧ d = true ∧ b3 = false) ∨ (b1 = true ∧ d = true ∧ b3 = true)) := by
    intro b1 b3 _ _
    cases b1 <;> cases d <;> cases b3 <;> simp
  rcases key _ _ rfl rfl with e1 | ⟨e1, rfl⟩ | ⟨e1, rfl, e3⟩ | ⟨e1, rfl, e3⟩
  · have e := of_decide_eq_false e1
    have t1 : (p == p') = false := by rw [beq_eq_false_iff_ne]; exact e
    have HR := Lib.hid (show r = false by rw [HS.out, e1]; rfl)
    clear HS
    go_wp2_with fail
    go_ret
    exact ⟨retb HR.out.symm, HF.out⟩
  · have e := of_decide_eq_true e1
    subst e
    have HR := Lib.hid (show r = false by rw [HS.out]; simp)
    clear HS e1
    go_wp2_with fail
    go_ret
    exact ⟨retb HR.out.symm, HF.out⟩
  · have e := of_decide_eq_true e1
    subst e
    have e := of_decide_eq_false e3
    have t1 : (o == o') = false := by rw [beq_eq_false_iff_ne]; exact e
    have HR := Lib.hid (show r = false by rw [HS.out, e3]; simp)
    clear HS e1
    go_wp2_with fail
    go_ret
    exact ⟨retb HR.out.symm, HF.out⟩
  · have e := of_decide_eq_true e1
    subst e
    have e := of_decide_eq_true e3
    subst e
    have HR := Lib.hid (show r = decide (a = a') by rw [HS.out]; simp)
    clear HS e1 e3
    cases a <;> cases a'
    all_goals
      go_wp2_with fail
      go_ret
      exact ⟨retb HR.out.symm, HF.out⟩
set_option maxHeartbeats 3200000 in
set_option maxRecDepth 100000 in
theorem idx_ (gx : Nat) (x : Pa) (A : Option Addr) (n c : Nat) (l : List Pa) (ho : Own w 34 7 A n c (flat l)) (hn : l.length = n) (hl : n < 1000000) (p : Nat) (hp : p ≤ n)
    (hbefore : ∀ j y, j < p → l[j]? = some y → sameW x y = false) (hat : ∀ y, l[p]? = some y → sameW x y = true) (r : Int) (hr : r = if p < n then (p : Int) else -1)
    (hx : Blk w gx 34 #[.int .i64 x.proto, .int .i64 x.metric, .bool x.via.six, .int .u64 (x.via.hi : Int), .int .u64 (x.via.lo : Int), .int .i64 x.port, .bool x.away]) :
    Calls Tryz.prog 61 #[.slice A n c, .func (.func 62) #[] #[.pointer (some ⟨gx, 0, none⟩)]] w fun e w' => e = .returned (.int .i64 r) ∧ Fr N0 w w' := by
  have HO := Lib.hid ho
  have HX := Lib.hid hx
  have HBE := Lib.hid hbefore
  have HAT := Lib.hid hat
  have HN := Lib.hid hn
  have HR := Lib.hid hr
  clear ho hx hbefore hat hn hr
  have eg : ∀ args w, (callFunc 62 args).run Tryz.prog w = .ok (.enter 62 args) w := enters_of Tryz.func62 (by kernel_rfl) rfl
  go_enter Tryz.func61, Tryz.ntmps61
  go_wp2_with fail
  go_loopw [8] (fun i wr => ∃ j : Nat, j ≤ p ∧ i = .int .i64 (j : Int) ∧ Fr N0 w wr) (fun i _ => p + 1 - (intOf i).toNat)
  case atStart => exact ⟨0, Nat.zero_le _, rfl, Fr.refl _ _⟩
  case round =>
    obtain ⟨j, hj, rfl, hF⟩ := hrel
    by_cases hjn : j < n
    · have ho := HO.out.fr hF fun _ _ => id
      obtain ⟨g, rfl⟩ := ho.some_ (by omega)
      obtain ⟨u, hu⟩ : ∃ u, l[j]? = some u := ⟨_, List.getElem?_eq_getElem (by have := HN.out; omega)⟩
      obtain ⟨g0, g1, g2, g3, g4, g5, g6⟩ := ho.e7 HN.out hu
      have HF := Lib.hid hF
      have k49 := way1_ (w := wr) gx x u (HX.out.fr hF id)
      have HU := Lib.hid hu
      have hjI : (j : Int) < (n : Int) := by omega
      unfold paV at k49
      clear hF hu ho
      by_cases hjp : j < p
      · rw [HBE.out j u hjp HU.out] at k49
        go_wp2_with fail
        refine k49.mono ?_
        rintro e w2 ⟨rfl, f2⟩
        have HF2 := Lib.hid (HF.out.trans f2)
        clear f2 g0 g1 g2 g3 g4 g5 g6
        go_wp2_with fail
        go_roundw
        case rel => exact ⟨j + 1, by omega, by go_num, HF2.out⟩
        case measure => simp [intOf]; omega
      · obtain rfl : j = p := by omega
        rw [HAT.out u HU.out] at k49
        have HRR := Lib.hid (show r = (j : Int) by rw [HR.out, if_pos hjn])
        go_wp2_with fail
        refine k49.mono ?_
        rintro e w2 ⟨rfl, f2⟩
        have HF2 := Lib.hid (HF.out.trans f2)
        clear f2 g0 g1 g2 g3 g4 g5 g6
        go_wp2_with fail
        go_ret
        exact ⟨by rw [HRR.out]; rfl, HF2.out⟩
    · have HRR := Lib.hid (show r = -1 by rw [HR.out, if_neg (by omega)])
      have hjI : ¬ ((j : Int) < (n : Int)) := by omega
      have HF := Lib.hid hF
      clear hF
      go_wp2_with fail
      go_ret
      exact ⟨by rw [HRR.out]; rfl, HF.out⟩
theorem way_find (x : Pa) : ∀ l : List Pa, ∃ p, p ≤ l.length ∧ (∀ j y, j < p → l[j]? = some y → sameW x y = false) ∧ (∀ y, l[p]? = some y → sameW x y = true)
  | [] => ⟨0, Nat.le_refl _, fun _ _ h => absurd h (by omega), fun y h => by simp at h⟩
  | a :: r => by
    cases h : sameW x a with
    | true => exact ⟨0, by omega, fun _ _ h => absurd h (by omega), fun y hy => by simp only [List.getElem?_cons_zero, Option.some.injEq] at hy; exact hy ▸ h⟩
    | false =>
      obtain ⟨p, h1, h2, h3⟩ := way_find x r
      refine ⟨p + 1, by simp only [List.length_cons]; omega, fun j y hj hy => ?_, fun y hy => h3 y (by simpa using hy)⟩
      cases j with
      | zero => simp only [List.getElem?_cons_zero, Option.some.injEq] at hy; exact hy ▸ h
      | succ j => exact h2 j y (by omega) (by simpa using hy)
set_option maxHeartbeats 3200000 in
set_option maxRecDepth 100000 in
theorem way_ (x : Pa) (A : Option Addr) (n c : Nat) (l : List Pa) (ho : Own w 34 7 A n c (flat l)) (hn : l.length = n) (hl : n < 1000000) (p : Nat) (hp : p ≤ n)
    (hbefore : ∀ j y, j < p → l[j]? = some y → sameW x y = false) (hat : ∀ y, l[p]? = some y → sameW x y = true) :
    Calls Tryz.prog 40 #[.slice A n c, paV x] w fun e w' => e = .returned (.int .i64 (if p < n then (p : Int) else -1)) ∧ Fr N0 w w' := by
  obtain ⟨r, hr⟩ : ∃ r : Int, r = if p < n then (p : Int) else -1 := ⟨_, rfl⟩
  rw [← hr]
  have hw1 := Blk.new w 34 #[.int .i64 x.proto, .int .i64 x.metric, .bool x.via.six, .int .u64 (x.via.hi : Int), .int .u64 (x.via.lo : Int), .int .i64 x.port, .bool x.away]
  have k := idx_ _ x A n c l (ho.fr ((Fr.refl N0 w).alloc (.cells #[.int .i64 x.proto, .int .i64 x.metric, .bool x.via.six, .int .u64 (x.via.hi : Int), .int .u64 (x.via.lo : Int), .int .i64 x.port, .bool x.away] 34)) fun _ _ => id) hn hl p hp hbefore hat r hr hw1
  have HF := Lib.hid ((Fr.refl N0 w).alloc (.cells #[.int .i64 x.proto, .int .i64 x.metric, .bool x.via.six, .int .u64 (x.via.hi : Int), .int .u64 (x.via.lo : Int), .int .i64 x.port, .bool x.away] 34))
  clear ho hn hbefore hat hr hw1 hl hp
  go_enter Tryz.func40, Tryz.ntmps40
  unfold paV
  go_wp2_with fail
  refine k.mono ?_
  rintro e w2 ⟨rfl, hf⟩
  go_wp2_with fail
  go_ret
  exact ⟨rfl, HF.out.trans hf⟩
end
end Go.Proofs.YtnklbeigikcfkaaGreatDoor
