/- The document's own wheel: Add, Cancel. -/
import Derived.Test.YtgmeebpgncenmaaRf2
import Derived.IntWalk
namespace Go.Proofs.Ytgmeebpgncenmaa
open Go.RowKit
section
variable {w : World} {q now : Nat} {F : Nat → Prop} {L : List Tm}
set_option maxHeartbeats 1600000 in
theorem radd_no (h : RWh w q F now L) (hl : L.length ≤ 1000) (id a r : Int) (hr : AddNo L id a r) :
    Calls Try.prog 15 #[.pointer (some ⟨q, 0, none⟩), .int .i64 id, .int .i64 a] w fun e w' => e = .returned (.int .i64 r) ∧ w = w' := by
  rcases hr with ⟨ha, rfl⟩ | ⟨ha1, ha2, ht, rfl⟩ | ⟨ha1, ha2, hno, hl2, rfl⟩
  · by_cases ha1 : a < 1
    · clear ha
      go_enter Try.func15, Try.ntmps15
      go_wp2_with fail
      go_ret
      exact ⟨rfl, rfl⟩
    · have ha2 : 4095 < a := by omega
      clear ha
      go_enter Try.func15, Try.ntmps15
      go_wp2_with fail
      go_ret
      exact ⟨rfl, rfl⟩
  · obtain ⟨p, t, hp, rfl, hb⟩ := first_id ht
    have HC := Lib.hid (rat_some h hl p t hp hb)
    have h1 : ¬ a < 1 := by omega
    clear hb hp ht h
    go_enter Try.func15, Try.ntmps15
    go_wp2_with fail
    refine HC.out.mono ?_
    rintro e w2 ⟨rfl, rfl⟩
    go_wp2_with fail
    go_ret
    exact ⟨rfl, rfl⟩
  · have HC := Lib.hid (rat_none h hl id hno)
    have h1 : ¬ a < 1 := by omega
    obtain ⟨A, c, hB, hO, _⟩ := h
    have b1 := hB.cell 1
    simp only [List.getElem?_toArray, List.getElem?_cons_zero, List.getElem?_cons_succ] at b1
    rw [hl2] at b1
    clear hno hB hO hl2 hl
    go_enter Try.func15, Try.ntmps15
    go_wp2_with fail
    refine HC.out.mono ?_
    rintro e w2 ⟨rfl, rfl⟩
    go_wp2_with fail
    go_ret
    exact ⟨rfl, rfl⟩
def RAdd (w : World) (q now : Nat) (F : Nat → Prop) (L' : List Tm) (e : Ending) (w' : World) : Prop := e = .returned (.int .i64 0) ∧ RWh w' q (Fn F w) now L' ∧ Fr F w w'
set_option maxRecDepth 100000 in
set_option maxHeartbeats 3200000 in
theorem radd_ok (h : RWh w q F now L) (hl : L.length < 1000) (hnow : now < 1152921504606846976) (id : Int) (a num : Nat) (ha1 : 1 ≤ (a : Int)) (ha2 : (a : Int) ≤ 4095) (hno : ∀ t, t ∈ L → t.id ≠ id) :
    Calls Try.prog 15 #[.pointer (some ⟨q, 0, none⟩), .int .i64 id, .int .i64 (a : Int)] w (RAdd w q now F (L ++ [⟨id, now + a, num⟩])) := by
  have HC := Lib.hid (rat_none h (Nat.le_of_lt hl) id hno)
  obtain ⟨A, c, hB, hO, hFq, hFA⟩ := h
  have b0 := hB.cell 0
  have b1 := hB.cell 1
  simp only [List.getElem?_toArray, List.getElem?_cons_zero, List.getElem?_cons_succ] at b0 b1
  have hq := hB.lt
  have zf := hB.frozen 1
  obtain ⟨i0, hi, hz0, hz1, hz2⟩ := info_parts info62
  obtain ⟨g', c', w5, hrun, ho, f7, hg'⟩ := run_append1 (P := Try.prog) w.drew 41 41 62 i0 _ 2 16 Try.underlying41 hi hz0 hz1 hz2 rfl (by omega) A L.length c _ hO
    [.int .i64 id, .int .i64 ((now : Int) + (a : Int))] rfl (by simp [Value.oneCell']) (by omega) (by omega)
  have hrun' : (Builtin.append_ #[41, 41] 41 #[.slice A L.length c, .slice (some ⟨w.heap.size, 0, none⟩) 1 1]).run Try.prog (w.alloc (.cells #[.int .i64 id, .int .i64 ((now : Int) + (a : Int))] 62)).drew = .ok (.slice (some ⟨g', 0, none⟩) (L.length + 1) c') w5 := hrun
  have hqA : A ≠ some ⟨q, 0, none⟩ := fun e => by subst e; exact hO.block_ne hB (by decide) rfl
  have hB5 : Blk w5 q 43 _ := hB.drew.fr f7 hqA
  have b5 := hB5.cell 1
  have zf5 := hB5.frozen 1
  simp only [List.getElem?_toArray, List.getElem?_cons_zero, List.getElem?_cons_succ] at b5
  have hfin : RAdd w q now F (L ++ [⟨id, now + a, num⟩]) (.returned (.int .i64 0)) (w5.setCell ⟨q, 1, none⟩ (.slice (some ⟨g', 0, none⟩) (L.length + 1) c')) := by
    have f8 : Fr (fun i => i = q) w5 (w5.setCell ⟨q, 1, none⟩ (.slice (some ⟨g', 0, none⟩) (L.length + 1) c')) := (Fr.refl (fun i => i = q) _).setCell (.inl rfl) _
    have hll : (L ++ [(⟨id, now + a, num⟩ : Tm)]).length = L.length + 1 := by simp
    have hqg : g' ≠ q := by
      rcases hg' with h1 | h1
      · intro e; exact hqA (by rw [h1, e])
      · intro e; have : w.drew.heap.size = w.heap.size := rfl; omega
    refine ⟨rfl, ⟨some ⟨g', 0, none⟩, c', by rw [hll]; exact hB5.set_ 1 _, ?_, .inl hFq, fun g e => ?_⟩, ?_⟩
    · rw [hll, rcs_append, rcs_one]
      have : Own w5 62 2 (some ⟨g', 0, none⟩) (L.length + 1) c' (rcs L ++ Tm.rc ⟨id, now + a, num⟩) := ho
      exact this.fr f8 fun g e h1 => by rw [Option.some.injEq, Addr.mk.injEq] at e; omega
    · rw [Option.some.injEq, Addr.mk.injEq] at e
      rw [← e.1]
      rcases hg' with h1 | h1
      · exact .inl (hFA _ h1)
      · exact .inr h1
    · exact (((Fr.refl F w).drew).step f7 fun i hi => .inl (hFA i hi)).setCell (.inl hFq) _
  have H := Lib.hid hrun'
  have HF := Lib.hid hfin
  have hnb : 0 ≤ (now : Int) := by omega
  have hll2 : (L.length : Int) < 1000 := by omega
  clear hB hO hFq hFA hno hrun hrun' ho f7 hg' hqA hB5 hfin hi hz0 hz1 hz2
  generalize L.length = n at *
  go_enter Try.func15, Try.ntmps15
  go_wp2_with fail
  refine HC.out.mono ?_
  rintro e w2 ⟨rfl, rfl⟩
  go_wp2_with fail
  have hwr : IntKind.i64.wrap ((now : Int) + (a : Int)) = (now : Int) + (a : Int) := IntWalk.i64_in _ (by omega)
  go_region_law (refine step_append_run rfl (.tmp 27) (.tmp 36) 41 (by rfl) _ _ _ _ (by rfl) (by rfl) H.out ?_)
  all_goals go_wp2_with fail
  all_goals go_ret
  all_goals exact HF.out
end
end Go.Proofs.Ytgmeebpgncenmaa
