/- maps.Keys over the rib's map: its iterator. slices.AppendSeq over the keys; Collect. slices.SortFunc at prefixes, by their order. Prefixes: those with a path, in their order. -/
import Derived.Test.YtnklbeigikcfkaaGreatDoorGb
import Derived.RangeFuncNested
import Derived.RangeFuncLeaves
import Derived.RangeFuncBox
import Derived.Shelf.Abstract
import Derived.Shelf.RegionOpen
import Derived.WalkKit
import Derived.OwnWalkIn
import Derived.TacticsInMore
import Derived.LoopNIn
import Derived.LoopIn
import Derived.Maps.OwnIn
import Derived.Test.YtnklbeigikcfkaaGreatDoorGc
import Derived.Test.YtnklbeigikcfkaaGreatDoorGa
import Derived.Shelf.SlSortCmp.NoneTotal
import Derived.Shelf.SlicesG.Cmp
import Derived.Shelf.Lay
import Derived.Shelf.SlGeneric
import Derived.Ground.SlsfProg
namespace Go.Proofs.YtnklbeigikcfkaaGreatDoor
open Go.Proofs Go.RowKit Go.Shelf
attribute [local go_sem] Oper.semAt_some
/-- How many entries an iterator has still to give. -/
def iterLeft (w : World) (r b : Nat) : Nat :=
  match w.heap[b]?, w.heap[r]? with
  | some (.map es _), some (.mapIter _ _ seen _) => (es.toList.filter fun e => !seen.contains e.born).length
  | _, _ => 0
section
variable {α β : Type} {P : Program} {k : TypeId} {kf : α → Value} {vf : β → Value} {w w' : World} {r b : Nat} {l rest : List (α × β)}
theorem IterIs.left_eq (h : IterIs P k kf vf w r b l rest) : iterLeft w r b = rest.length := by
  obtain ⟨es, clock, since, seen, c0, hb, hs, hk, he, hr, hold, hsc, hsk, hrest, hsub⟩ := h
  have := congrArg List.length hrest
  unfold iterLeft
  rw [hb, hr]
  simpa using this
theorem IterIs.walks (h : IterIs P k kf vf w r b l rest) (hk : KeepsWalks w w') : IterIs P k kf vf w' r b l rest := by
  obtain ⟨es, clock, since, seen, c0, hb, hs, hk', he, hr, q⟩ := h
  exact ⟨es, clock, since, seen, c0, hk.same _ _ hb rfl, hs, hk', he, hk.same _ _ hr rfl, q⟩
theorem IterIs.walk (h : IterIs P k kf vf w r b l rest) : ∃ o : Obj, w.heap[r]? = some o ∧ o.isWalk = true := by
  obtain ⟨es, clock, since, seen, c0, hb, hs, hk', he, hr, q⟩ := h
  exact ⟨_, hr, rfl⟩
theorem Fr.grown_none (h : Fr (fun _ => False) w w') : w.grownBy w' none := ⟨h.os, h.tape, h.output, h.size, fun k hk _ => h.block k hk id⟩
theorem Fr.grown_some (h : Fr (fun j => j = r) w w') : w.grownBy w' (some r) := ⟨h.os, h.tape, h.output, h.size, fun k hk hn => h.block k hk (fun e => hn (by rw [e]))⟩
variable {F : Fence} {n : Nat} {ops : Array Oper} {rs : List Oper} {o : Oper} {a : Act} {Q : Exit → Act → World → Prop}
theorem wpListIn_range_is (hg : o.guard = none) (m : Operand) (t : TypeId) (hop : o.op = Op.range t m) (k e : TypeId) (ht : P.underlying t = some (.map k e)) (kf : α → Value) (vf : β → Value) (b : Nat) (l : List (α × β)) (h : MapIs P k kf vf w b l)
    (hm : a.eval m = .map (some b))
    (hK : ∀ w', IterIs P k kf vf w' w.heap.size b l l → Fr (fun _ => False) w w' → w'.heap.size = w.heap.size + 1 → wpListIn F n P ops Q rs (a.put o.dst (.pointer (some ⟨w.heap.size, 0, none⟩))) w') : wpListIn F n P ops Q (o :: rs) a w := by
  refine wpListIn_plain hg fun K' hK' => ?_
  obtain ⟨w', hrun, r1, r2, r3⟩ := h.range (S := fun _ => False) ht
  unfold Oper.wpIn
  refine ⟨by simp [Oper.about, hop], ?_⟩
  rw [Oper.semAt_plain F _ _ (by rw [hop]; intro c hc'; cases hc')]
  simp [execOp, hop, hm, hrun, Result.andThen]
  exact hK' _ _ (hK w' r1 r2 r3)
theorem wpListIn_next_is (hg : o.guard = none) (it : Operand) (hop : o.op = Op.next it false) (k : TypeId) (kf : α → Value) (vf : β → Value) (r b : Nat) (l lr : List (α × β)) (h : IterIs P k kf vf w r b l lr)
    (hit : a.eval it = .pointer (some ⟨r, 0, none⟩))
    (hDone : lr = [] → wpListIn F n P ops Q rs (a.put o.dst (.tuple #[.bool false])) w)
    (hMore : ∀ (i : Nat) (x : α) (v : β) (w' : World), lr[i]? = some (x, v) → IterIs P k kf vf w' r b l (lr.eraseIdx i) → Fr (fun j => j = r) w w' → w'.heap.size = w.heap.size → (Instr.entry (.pointer (some ⟨r, 0, none⟩))).run P w' = .ok (.tuple #[kf x, vf v]) w' → wpListIn F n P ops Q rs (a.put o.dst (.tuple #[.bool true, kf x, vf v])) w') :
    wpListIn F n P ops Q (o :: rs) a w := by
  refine wpListIn_plain hg fun K' hK' => ?_
  unfold Oper.wpIn
  refine ⟨by simp [Oper.about, hop], ?_⟩
  rw [Oper.semAt_plain F _ _ (by rw [hop]; intro c hc'; cases hc')]
  rcases h.next o.type with ⟨h0, hrun⟩ | ⟨i, x, v, w', hi, hrun, hit', hfr, hsz, hen⟩
  · simp [execOp, hop, hit, hrun, Result.andThen]
    exact hK' _ _ (hDone h0)
  · simp [execOp, hop, hit, hrun, Result.andThen]
    exact hK' _ _ (hMore i x v w' hi hit' hfr hsz hen)
end
theorem erase_perm {α : Type} : ∀ {l : List α} {i : Nat} {x : α}, l[i]? = some x → (x :: l.eraseIdx i).Perm l
  | [], i, x, h => by simp at h
  | a :: r, 0, x, h => by
    simp only [List.getElem?_cons_zero, Option.some.injEq] at h
    subst h
    exact List.Perm.refl _
  | a :: r, i + 1, x, h => by
    simp only [List.eraseIdx_cons_succ]
    exact (List.Perm.swap _ _ _).trans ((erase_perm (l := r) (by simpa using h)).cons a)
set_option maxRecDepth 100000 in
set_option maxHeartbeats 3200000 in
/-- The keys come, each once, in some order. -/
theorem keys_stops (F : Fence) (n : Nat) (hF : F.fn 57) (hro : F.round = none) (hn : 1 ≤ n) (Bm b : Nat) (M : List (Px × Sl)) (w : World) (hBm : Bm < w.heap.size)
    (hc : w.cell? ⟨Bm, 0, none⟩ = some (.map (some b))) (hM : MapIs Tryz.prog 32 pxV slV w b M) :
    SeqStopsK F n Tryz.prog 57 #[.pointer (some ⟨Bm, 0, none⟩)] (fun x : Px => #[pxV x]) KeepsWalks (fun ks => ks.Perm (M.map (·.1))) (fun _ => True) M.length w := by
  intro l J Jx W hW hJ hJx hY h0
  have hcW := (hW.cell (p := ⟨Bm, 0, none⟩) hBm).trans hc
  have hMW : MapIs Tryz.prog 32 pxV slV W b M := hM.of_block (hW.block b hM.lt)
  refine callsIn_of_wp Tryz.func57 rfl hF ?_ hro
  simp only [Tryz.ntmps57, List.size_toArray, List.length_cons, List.length_nil, Nat.reduceAdd, Nat.reduceSub, Array.replicate_succ, Array.replicate_zero, List.push_toArray, List.append_toArray, List.nil_append, List.cons_append]
  gi_wp2_with (first
    | (gi_at_range; refine wpListIn_range_is rfl _ 59 rfl 32 42 Tryz.underlying59 pxV slV b M hMW rfl ?_; intro w0 hI f0 s0)
    | gi_in)
  obtain ⟨r0, hr0⟩ : ∃ r0, r0 = W.heap.size := ⟨_, rfl⟩
  rw [← hr0] at hI hJ hJx ⊢
  have hJ1 : J [] w0 := hJ [] W w0 none h0 f0.grown_none (fun r e => by cases e)
  clear f0 s0 hcW hMW h0 hc hM hr0 hW
  gi_loopw [3] (fun _ wr => ∃ (pre : List Px) (rest : List (Px × Sl)), IterIs Tryz.prog 32 pxV slV wr r0 b M rest ∧ (pre ++ rest.map (·.1)).Perm (M.map (·.1)) ∧ J pre wr) (fun _ wr => iterLeft wr r0 b)
  case atStart => exact ⟨[], M, hI, by simp, hJ1⟩
  case round =>
    obtain ⟨pre, rest, hI2, hp, hJs⟩ := hrel
    gi_wp2_with (first
      | (gi_at_next; refine wpListIn_next_is rfl _ rfl 32 pxV slV r0 b M rest hI2 rfl ?_ ?_)
      | gi_in)
    · intro e
      subst e
      gi_wp2
      go_end0
      exact ⟨⟨_, rfl⟩, .inl ⟨pre, by simpa using hp, hJs⟩⟩
    · intro i x A' n' c' w2 hi hI3 f3 s3 hent
      have hJ2 : J pre w2 := hJ pre wr w2 (some r0) hJs f3.grown_some (fun r e => by cases e; exact ⟨Nat.le_refl _, hI2.walk⟩)
      have hlen : pre.length < M.length := by
        have := hp.length_eq
        have h1 := (List.getElem?_eq_some_iff.1 hi).1
        rw [List.length_append, List.length_map, List.length_map] at this
        omega
      obtain ⟨⟨xs, xh, xl⟩, xm⟩ := x
      have hJ3 := hJ pre w2 (w2.alloc (.cells #[.bool xs, .int .u64 (xh : Int), .int .u64 (xl : Int), .int .i64 xm] 32)) none hJ2 (World.grownBy_alloc w2 _ none) (fun r e => by cases e)
      obtain ⟨fn, tmps, assign, body, hy, hR⟩ := hY pre ⟨⟨xs, xh, xl⟩, xm⟩ _ hJ3 hlen
      have hI4 := hI3.walks (KeepsWalks.alloc w2 (.cells #[.bool xs, .int .u64 (xh : Int), .int .u64 (xl : Int), .int .i64 xm] 32))
      have hp2 : ((pre ++ [(⟨⟨xs, xh, xl⟩, xm⟩ : Px)]) ++ (rest.eraseIdx i).map (·.1)).Perm (M.map (·.1)) := by
        refine List.Perm.trans ?_ hp
        rw [List.append_assoc]
        refine List.Perm.append_left _ ?_
        exact (erase_perm hi).map (·.1)
      have hlr : (rest.eraseIdx i).length < rest.length := by
        have h1 := (List.getElem?_eq_some_iff.1 hi).1
        rw [List.length_eraseIdx, if_pos h1]
        omega
      have hle := hI2.left_eq
      unfold pxV slV at hent
      unfold pxV at hy
      simp only at hent hy
      clear hI3 s3 hJ2 hJ3 hi f3
      gi_wp2
      refine hR.mono ?_
      rintro e W3 (⟨rfl, hJ3, hk3⟩ | ⟨rfl, hJx3⟩)
      · have hI5 := hI4.walks hk3
        gi_wp2
        go_roundw
        case rel => exact ⟨pre ++ [⟨⟨xs, xh, xl⟩, xm⟩], rest.eraseIdx i, hI5, hp2, hJ3⟩
        case measure => rw [hI5.left_eq, hle]; exact hlr
      · gi_wp2
        refine bodyPost_ret (results_none rfl _ _ _) rfl ?_
        exact ⟨⟨_, rfl⟩, .inr ⟨pre ++ [⟨⟨xs, xh, xl⟩, xm⟩], trivial, hJx3⟩⟩
set_option maxHeartbeats 1000000 in
/-- maps.Keys: the map is boxed, the iterator captures the box. -/
theorem keysf_ (mb : Option Nat) (w : World) : Calls Tryz.prog 36 #[.map mb] w fun e w' => e = .returned (.func (.func 57) #[] #[.pointer (some ⟨w.heap.size, 0, none⟩)]) ∧ w' = w.alloc (.cells #[.map mb] 59) := by
  go_enter Tryz.func36, Tryz.ntmps36
  go_wp2_with fail
  go_ret
  exact ⟨rfl, rfl⟩
end Go.Proofs.YtnklbeigikcfkaaGreatDoor
namespace Go.Proofs.YtnklbeigikcfkaaGreatDoor
open Go.Proofs Go.RowKit Go.Shelf
attribute [local go_sem] Oper.semAt_some
/-- A block of cells lies on wherever but a block that is none has turned. -/
theorem cells_on {W W' : World} {row : Option Nat} {k : Nat} {c : Array Value} {e : TypeId} {f : Nat × Nat} (h : W.heap[k]? = some (.cells c e f)) (hg : W.grownBy W' row) (hr : ∀ r, row = some r → ∃ o : Obj, W.heap[r]? = some o ∧ o.isCells = false) : W'.heap[k]? = some (.cells c e f) := by
  rw [hg.block k (Array.getElem?_eq_some_iff.1 h).1 (fun e' => by
    obtain ⟨o, ho, hc⟩ := hr k e'.symm
    rw [h] at ho
    cases ho
    cases hc)]
  exact h
set_option maxRecDepth 100000 in
set_option maxHeartbeats 6400000 in
theorem apseq_in (F : Fence) (n : Nat) (hF5 : F.fn 74) (hF : F.fn 57) (hro : F.round = none) (hn : 3 ≤ n) (Bm b : Nat) (M : List (Px × Sl)) (w : World) (hBm : Bm < w.heap.size)
    (hc : w.cell? ⟨Bm, 0, none⟩ = some (.map (some b))) (hM : MapIs Tryz.prog 32 pxV slV w b M) (hMl : M.length ≤ 90) :
    CallsIn F n Tryz.prog 74 #[.slice none 0 0, .func (.func 57) #[] #[.pointer (some ⟨Bm, 0, none⟩)]] w fun e w' =>
      ∃ v, ∃ ks : List Px, e = .returned v ∧ ks.Perm (M.map (·.1)) ∧ w'.ownsRow w.heap.size 32 4 v ks.length (flat ks) ∧ Below w.heap.size w w' := by
  have h1 : 1 ≤ n := by omega
  obtain ⟨i0, hi, hz0, hz1, hz2⟩ := info_parts infoPx
  refine callsIn_of_wp_marks Tryz.func74 rfl hF5 ?_ hro
  simp only [Tryz.ntmps74, List.size_toArray, List.length_cons, List.length_nil, Nat.reduceAdd, Nat.reduceSub, Array.replicate_succ, Array.replicate_zero, List.push_toArray, List.append_toArray, List.nil_append, List.cons_append]
  gi_wp2
  have bS := Boxed.new w 44 (.slice none 0 0)
  have hB0 : Below w.heap.size w (w.alloc (.cells #[.slice none 0 0] 44)) := (Below.refl _ w).alloc (Nat.le_refl _) _
  have hsz : (w.alloc (.cells #[.slice none 0 0] 44)).heap.size = w.heap.size + 1 := by simp
  have hM0 := hM.alloc (.cells #[.slice none 0 0] 44)
  have hc0 : (w.alloc (.cells #[.slice none 0 0] 44)).cell? ⟨Bm, 0, none⟩ = some (.map (some b)) := (hB0.cell (p := ⟨Bm, 0, none⟩) hBm).trans hc
  obtain ⟨W0, hW0⟩ : ∃ W0, w.alloc (.cells #[.slice none 0 0] 44) = W0 := ⟨_, rfl⟩
  rw [hW0] at bS hB0 hsz hM0 hc0 ⊢
  clear hW0
  refine wpIn_rangeFunc_ownH hro h1 (gf := 57) (lb := #[.pointer (some ⟨Bm, 0, none⟩)]) rfl hF (enters_of Tryz.func57 (by kernel_rfl) rfl)
    (keys_stops F (n - 1) hF hro (by omega) Bm b M W0 (by omega) hc0 hM0) walksK_t walksK_b (Below.refl _ _) (fun _ => rfl)
    (fun pre W => (∃ v, Boxed W w.heap.size 44 v ∧ W.ownsRow w.heap.size 32 4 v pre.length (flat pre) ∧ True) ∧ Below w.heap.size w W)
    (fun _ _ _ => False)
    (OwnFrom.and (Own.from (holdsRow_own w.heap.size w.heap.size 44 32 4 (fun pre : List Px => pre.length) (fun pre => flat pre) (fun _ _ => True)) _) (ownFrom_below (Nat.le_refl _) (by omega)))
    (fun _ _ _ _ _ hs _ _ => hs)
    ⟨⟨_, bS, World.ownsRow_nil _ _ _ _, trivial⟩, hB0⟩
    (fun x a' W => ∃ Bx, w.heap.size < Bx ∧ Blk W Bx 32 #[.bool x.ad.six, .int .u64 (x.ad.hi : Int), .int .u64 (x.ad.lo : Int), .int .i64 x.bits] ∧ a' = { tmps := #[.slice none 0 0, .func (.func 57) #[] #[.pointer (some ⟨Bm, 0, none⟩)], .pointer (some ⟨w.heap.size, 0, none⟩), undef, .slice none 0 0, .pointer (some ⟨Bx, 0, none⟩), .func (.func 57) #[] #[.pointer (some ⟨Bm, 0, none⟩)], pxV x, undef, undef, undef, undef, undef], defers := [] })
    (fun x a' _ X Y row hs hg hr => by
      obtain ⟨Bx, h1, h2, h3⟩ := hs
      exact ⟨Bx, h1, cells_on h2 hg (fun r e => (hr r e).2), h3⟩)
    ?assign ?body ?done ?stop
  case assign =>
    rintro l pre ⟨⟨xs, xh, xl⟩, xm⟩ W K ⟨⟨v, hv, hrow, _⟩, hB⟩ hK
    unfold pxV
    gi_wp2
    exact hK _ _ ((KeepsOthers.alloc _ _).from _) (KeepsWalks.alloc _ _) ⟨⟨v, hv.alloc _, hrow.alloc _, trivial⟩, hB.alloc hB.size _⟩ ⟨W.heap.size, hv.lt, Blk.new W 32 _, rfl⟩
  case body =>
    rintro l pre ⟨⟨xs, xh, xl⟩, xm⟩ a' W hl ⟨r, hr⟩ ⟨⟨v, hv, hrow, _⟩, hB⟩ ⟨Bx, hBx, bX, rfl⟩ hlt
    obtain ⟨x0, x1, x2, x3⟩ := bX.c4
    have hcv := hv.cell
    have hsW := hB.size
    gi_wp2_with (gi_at_builtin; refine wpListIn_append_own _ rfl _ _ 44 rfl w.heap.size 32 i0 _ 4 32 Tryz.underlying44 hi hz0 hz1 hz2 rfl (by decide) _ _ _ rfl (hrow.alloc _) ⟨W.heap.size, 0, none⟩ 1 1 (Px.cs ⟨⟨xs, xh, xl⟩, xm⟩) rfl rfl (cells_new W (Px.cs ⟨⟨xs, xh, xl⟩, xm⟩) _) (fun u hu => by simp [Px.cs] at hu; rcases hu with rfl | rfl | rfl | rfl <;> rfl) (by unfold maxLen; omega) (by omega) (by simp; omega) ?_; intro v' w1 hown' hgrow _; obtain ⟨g', cap', rfl⟩ := ownsRow_succ hown'; obtain ⟨hv1, hv2, hr2, hk2, hb2⟩ := hv.appended (by decide) hrow hB.size (Nat.le_refl _) hown' hgrow; have hc1 := hv1.cell; have hf1 := hv1.frozen)
    have e1 : flat pre ++ Px.cs ⟨⟨xs, xh, xl⟩, xm⟩ = flat (pre ++ [⟨⟨xs, xh, xl⟩, xm⟩]) := by rw [flat_append, flat_one]; rfl
    rw [e1] at hr2
    have hl1 : (pre ++ [(⟨⟨xs, xh, xl⟩, xm⟩ : Px)]).length = pre.length + 1 := by simp
    first
      | exact ⟨hk2.from _, hk2.walks, ⟨_, hv2, by rw [hl1]; exact hr2⟩, hB.trans hb2⟩
      | exact ⟨hk2.from _, hk2.walks, ⟨_, hv2, by rw [hl1]; exact hr2, trivial⟩, hB.trans hb2⟩
  case done =>
    rintro D ys W hD hp ⟨⟨v, hv, hrow, _⟩, hB⟩ hK
    have hcv := hv.cell
    gi_wp2
    refine ⟨by simp, .inl ⟨_, _, rfl, run_takeDeferred hK, ?_⟩⟩
    exact ⟨_, results_tmp rfl _ _ _, v, ys, rfl, hp, ownsRow_putObj hrow _ hK rfl, hB.trans (belowK_b (w := w) (Nat.le_refl _) W D _ _ (by omega) hK rfl rfl)⟩
  case stop =>
    rintro D c pre W _ _ h _
    exact h.elim
end Go.Proofs.YtnklbeigikcfkaaGreatDoor
namespace Go.Proofs.YtnklbeigikcfkaaGreatDoor
open Go.Proofs Go.Shelf Go.RowKit Go.Lib Go.Sort
shelf_lay_g SlLaysF0.n6 Slsf 6 at Tryz 56 as Tryz.sortPx
/-- A right prefix. -/
abbrev VPx := { p : Px // p.ok ∧ validP p = true }
instance : Inhabited VPx := ⟨⟨⟨⟨false, 0, 0⟩, 0⟩, ⟨⟨by decide, by decide⟩, by decide, by decide⟩, by decide⟩⟩
def encX (x : VPx) : List Value := Px.cs x.1
def cfX (x y : VPx) : Int := if ltP x.1 y.1 = true then -1 else 1
theorem ltX (x y : VPx) : ltOf cfX x y = ltP x.1 y.1 := by
  unfold ltOf cfX
  cases ltP x.1 y.1 <;> decide
theorem swoX : SWO (ltOf cfX) where
  irrefl x := by rw [ltX]; exact ltP_irrefl _
  trans x y z h1 h2 := by rw [ltX] at *; exact ltP_trans h1 h2
  ntrans x y z h1 h2 := by
    rw [ltX] at *
    cases e : ltP x.1 z.1 with
    | false => rfl
    | true =>
      by_cases exy : x.1 = y.1
      · rw [exy, h2] at e; cases e
      · rcases ltP_total x.2.2 y.2.2 exy with k | k
        · rw [k] at h1; cases h1
        · rw [ltP_trans k e] at h2; cases h2
set_option maxHeartbeats 1600000 in
set_option maxRecDepth 100000 in
theorem cmpx_ (x y : VPx) (W : World) : Calls Tryz.prog 37 #[pxV x.1, pxV y.1] W fun e w' => e = .returned (.int .i64 (cfX x y)) ∧ U.Fr U.N0 W w' := by
  have hc := Lib.hid (show cfX x y = if ltP x.1 y.1 = true then -1 else 1 from rfl)
  have k := fun (W : World) => U.les_ (w := W) x.1 y.1 x.2.1 y.2.1
  generalize cfX x y = r at *
  obtain ⟨x, hx⟩ := x
  obtain ⟨y, hy⟩ := y
  simp only at *
  generalize ltP x y = t at *
  clear hx hy
  obtain ⟨⟨s, h, l⟩, m⟩ := x
  obtain ⟨⟨s', h', l'⟩, m'⟩ := y
  unfold pxV at *
  simp only at *
  have HF := Lib.hid (((U.Fr.refl U.N0 W).alloc (.cells #[.bool s, .int .u64 (h : Int), .int .u64 (l : Int), .int .i64 m] 32)).alloc (.cells #[.bool s', .int .u64 (h' : Int), .int .u64 (l' : Int), .int .i64 m'] 32))
  cases t
  all_goals
    go_enter Tryz.func37, Tryz.ntmps37
    go_wp2_with fail
    refine (k _).mono ?_
    rintro e w2 ⟨rfl, hf⟩
    go_wp2_with fail
    go_ret
    exact ⟨by rw [hc.out]; rfl, HF.out.trans hf⟩
theorem flatX_at : ∀ (d : List VPx) (j : Nat), j < d.length * 4 → (flat (d.map (·.1)))[j]? = some ((encX (d[j / 4]!))[j % 4]!) := by
  intro d j hj
  have hq : j / 4 < d.length := by omega
  have hm : j % 4 < 4 := Nat.mod_lt _ (by omega)
  have e : j = j / 4 * 4 + j % 4 := by omega
  have k := flat_at (l := d.map (·.1)) (j := j / 4) (x := (d[j / 4]).1) (by rw [List.getElem?_map, List.getElem?_eq_getElem hq]; rfl) (j % 4) hm
  rw [← e] at k
  rw [k, getElem!_pos d (j / 4) hq]
  have : j % 4 = 0 ∨ j % 4 = 1 ∨ j % 4 = 2 ∨ j % 4 = 3 := by omega
  rcases this with h | h | h | h <;> rw [h] <;> rfl
theorem holdsX {w : World} {g n c : Nat} {d : List VPx} (ho : Own w 32 4 (some ⟨g, 0, none⟩) n c (flat (d.map (·.1)))) (hn : d.length = n) : HoldsK encX 4 w g 0 d.toArray := by
  intro j hj
  have hj' : j < d.length * 4 := by simpa using hj
  refine ⟨?_, by rw [Nat.zero_add]; exact ho.cell_none j⟩
  rw [Nat.zero_add, ho.cell j (by omega), flatX_at d j hj', get_flatK _ _ _ _ (by simpa using hj')]
  simp
theorem sortX_fr (w : World) (g n : Nat) (d' : Array VPx) (os : Array Obj) : Fr (fun i => i = g) w (sortWorldK encX 4 w g 0 n d' os) := by
  refine ⟨rfl, rfl, rfl, ?_, fun i hi hne => ?_⟩
  · simp [sortWorldK, grow, putRowK, putRow, mapBlock, Sort.ahead]
  · simp only [sortWorldK, grow, putRowK, putRow, mapBlock, Sort.ahead]
    rw [Array.getElem?_append_left (by simpa using hi), Array.getElem?_modify, if_neg (fun e => hne e.symm)]
theorem sortX_own {w : World} {g n c m : Nat} {d : List VPx} (ho : Own w 32 4 (some ⟨g, 0, none⟩) n c (flat (d.map (·.1)))) (d' : Array VPx) (hd : d'.size = n) (os : Array Obj) :
    Own (sortWorldK encX 4 w g 0 m d' os) 32 4 (some ⟨g, 0, none⟩) n c (flat (d'.toList.map (·.1))) := by
  have hlt := ho.lt rfl
  refine ⟨by rw [flat_length]; simp [hd], .inr ?_⟩
  rcases ho.2 with ⟨h, _⟩ | ⟨g', cur, hv, hg, hnc, hcm, hcs, ht⟩
  · cases h
  · injection hv with hv
    injection hv with hv
    subst hv
    refine ⟨g, putCells id 0 (flatK encX 4 d') cur, rfl, ?_, hnc, hcm, by simpa [putCells] using hcs, ?_⟩
    · simp only [sortWorldK, grow, putRowK, putRow, mapBlock, Sort.ahead]
      rw [Array.getElem?_append_left (by simpa using hlt), Array.getElem?_modify, if_pos rfl, hg]
      rfl
    · apply List.ext_getElem?
      intro j
      have hnc4 : n * 4 ≤ c * 4 := Nat.mul_le_mul_right 4 hnc
      by_cases hj : j < n * 4
      · rw [List.getElem?_take, if_pos hj, flatX_at _ _ (by simpa [hd] using hj)]
        rw [Array.getElem?_toList]
        simp only [putCells, Array.getElem?_mapIdx]
        rw [Array.getElem?_eq_getElem (by omega)]
        simp only [Option.map_some, Nat.zero_le, true_and, Nat.zero_add, size_flatK, hd, hj, if_true, id]
        rw [Nat.sub_zero, get_flatK _ _ _ _ (by omega)]
        have hj4 : j / 4 < d'.size := by omega
        simp [hj4]
      · rw [List.getElem?_take, if_neg hj, List.getElem?_eq_none (by rw [flat_length]; simp [hd]; omega)]
theorem lift_vpx : ∀ ks : List Px, (∀ p ∈ ks, p.ok ∧ validP p = true) → ∃ d : List VPx, d.map (·.1) = ks
  | [], _ => ⟨[], rfl⟩
  | p :: r, h => by
    obtain ⟨d, hd⟩ := lift_vpx r fun q hq => h q (List.mem_cons_of_mem _ hq)
    exact ⟨⟨p, h p List.mem_cons_self⟩ :: d, by rw [List.map_cons, hd]⟩
set_option maxHeartbeats 1600000 in
/-- The sort of right prefixes. -/
theorem srtx_ {w : World} (A : Option Addr) (c : Nat) (ks : List Px) (ho : Own w 32 4 A ks.length c (flat ks)) (hok : ∀ p ∈ ks, p.ok ∧ validP p = true) (hl : ks.length ≤ 1000000) :
    Calls Tryz.prog 56 #[.slice A ks.length c, .func (.func 37) #[] #[]] w fun e w' => e = .returned (.tuple #[]) ∧ ∃ ks' : List Px, ks'.Perm ks ∧ ks'.Pairwise (fun p q => ltP q p = false) ∧ Own w' 32 4 A ks.length c (flat ks') ∧ Fr (fun i => A = some ⟨i, 0, none⟩) w w' := by
  rcases ho.2 with ⟨rfl, h0, rfl⟩ | ⟨g, cur, rfl, _⟩
  · have hS := AnyF.slices_SortFunc_none (P := Tryz.prog) Tryz.sortPx none 0 (.func (.func 37) #[] #[]) w
    change Calls Tryz.prog 56 _ _ _ at hS
    rw [h0]
    refine hS.mono ?_
    rintro e w' ⟨rfl, rfl⟩
    have hnil : ks = [] := List.length_eq_zero_iff.1 h0
    subst hnil
    exact ⟨rfl, [], List.Perm.refl _, List.Pairwise.nil, ho, Fr.refl _ _⟩
  · obtain ⟨d, rfl⟩ := lift_vpx ks hok
    have hdl : d.length = (d.map (·.1)).length := by rw [List.length_map]
    have eg : ∀ args w, (callFunc 37 args).run Tryz.prog w = .ok (.enter 37 args) w := enters_of Tryz.func37 (by kernel_rfl) rfl
    have hcmp : CmpLays Tryz.prog 37 #[] encX 4 cfX g 0 d.toArray.size w := fun _ _ _ _ x y => (cmpx_ x y _).mono fun e w' ⟨h1, h2⟩ => ⟨h1, U.Fr.grow h2⟩
    have hcon := AnyQ.slices_SortFunc Tryz.sortPx 4 Tryz.isAgg32 Tryz.sizeOf32 encX (fun _ => rfl) (fun x v hv => by simp [encX, Px.cs] at hv; rcases hv with rfl | rfl | rfl | rfl <;> rfl) cfX swoX 37 #[] g 0 c d.toArray w eg hcmp (holdsX ho hdl) (ho.lt rfl) (by simp only [List.size_toArray]; omega)
    change Calls Tryz.prog 56 _ _ _ at hcon
    simp only [List.size_toArray] at hcon
    rw [List.length_map] at ho ⊢
    refine hcon.mono ?_
    rintro e w' ⟨rfl, d', n, os, hp, hs, rfl⟩
    have hsz : d'.size = d.length := by simpa using hp.1
    refine ⟨rfl, d'.toList.map (·.1), ?_, ?_, sortX_own ho d' hsz os, (sortX_fr w g n d' os).mono fun k _ hk => by rw [hk]⟩
    · have h := hp.2.2
      have e1 : (d'.extract 0 d.length).toList = d'.toList := by rw [← hsz]; simp
      have e2 : (d.toArray.extract 0 d.length).toList = d := by simp
      rw [e1, e2] at h
      exact h.map _
    · rw [List.pairwise_map, List.pairwise_iff_getElem]
      intro i j hi hj hij
      have h := hs i j (Nat.zero_le _) hij (by simpa [hsz] using hj)
      rw [ltX] at h
      have hi' : i < d'.size := by simpa using hi
      have hj' : j < d'.size := by simpa using hj
      rw [getElem!_pos d' i hi', getElem!_pos d' j hj'] at h
      simpa using h
end Go.Proofs.YtnklbeigikcfkaaGreatDoor
namespace Go.Proofs.YtnklbeigikcfkaaGreatDoor
open Go.Proofs Go.RowKit Go.Shelf
theorem own_of_row {W : World} {base : Nat} {e : TypeId} {k n : Nat} {v : Value} {xs : List Value} (h : W.ownsRow base e k v n xs) : ∃ A c, v = .slice A n c ∧ Own W e k A n c xs ∧ ∀ g, A = some ⟨g, 0, none⟩ → base ≤ g := by
  obtain ⟨h0, h | ⟨g, cap, cur, rfl, hb, hg, h1, h2, h3, h4⟩⟩ := h
  · obtain ⟨rfl, rfl⟩ := h
    exact ⟨none, 0, rfl, ⟨h0, .inl ⟨rfl, rfl, rfl⟩⟩, nofun⟩
  · exact ⟨some ⟨g, 0, none⟩, cap, rfl, ⟨h0, .inr ⟨g, cur, rfl, hg, h1, h2, h3, h4⟩⟩, fun g' e => by cases e; exact hb⟩
theorem RowT.px {L : List Td} (h : RowT clsA L) {p : Px} (hp : p ∈ prefsT L) : p.ok ∧ validP p = true := by
  obtain ⟨x, hx⟩ := mem_prefsT.1 hp
  have hv := (mayP_facts (h.may _ hx)).1
  have hb : 0 ≤ p.bits ∧ p.bits ≤ 128 := by
    have hw : widthA p.ad ≤ 128 := by unfold widthA; split <;> omega
    have hv' := hv
    unfold validP at hv'
    simp only [Bool.and_eq_true, decide_eq_true_eq] at hv'
    omega
  exact ⟨⟨(h.ok _ hx).1, by omega, by omega⟩, hv⟩
theorem RibM.keys {w : World} {F : Nat → Prop} {M : List (Px × Sl)} {L : List Td} (h : RibM w F M L) (hap : M.Pairwise fun p q => p.1 ≠ q.1) (hL : L.Pairwise fun u v => aheadT u v = true) : (M.map (·.1)).Perm (prefsT L) := by
  have hn : (M.map (·.1)).Nodup := List.pairwise_map.2 hap
  refine (List.perm_ext_iff_of_nodup hn (prefsT_nodup hL)).2 fun p => ?_
  rw [← paths_prefs, List.mem_map]
  constructor
  · rintro ⟨⟨q, s⟩, hm, rfl⟩
    exact (h.ent q s hm).choose_spec.2.2.2.2
  · intro hp
    obtain ⟨s, hs⟩ := h.all p hp
    exact ⟨(p, s), hs, rfl⟩
theorem sorted_prefs {L : List Td} (h : RowT clsA L) {ks : List Px} (hp : ks.Perm (prefsT L)) (hs : ks.Pairwise fun p q => ltP q p = false) : ks = prefsT L := by
  refine List.Perm.eq_of_pairwise (le := fun p q => ltP q p = false) (fun p q hp' hq' h1 h2 => ?_) hs ((prefsT_up h.up).imp fun {p q} k => ?_) hp
  · apply Classical.byContradiction
    intro hne
    rcases ltP_total (h.px (hp.mem_iff.1 hp')).2 (h.px hq').2 hne with k | k
    · rw [k] at h2; cases h2
    · rw [k] at h1; cases h1
  · cases e : ltP q p with
    | false => rfl
    | true => have := ltP_trans k e; rw [ltP_irrefl] at this; cases this
set_option maxHeartbeats 1600000 in
theorem collect_ (Bm b : Nat) (M : List (Px × Sl)) (w : World) (hBm : Bm < w.heap.size) (hc : w.cell? ⟨Bm, 0, none⟩ = some (.map (some b))) (hM : MapIs Tryz.prog 32 pxV slV w b M) (hMl : M.length ≤ 90) :
    Calls Tryz.prog 55 #[.func (.func 57) #[] #[.pointer (some ⟨Bm, 0, none⟩)]] w fun e w' =>
      ∃ A c, ∃ ks : List Px, e = .returned (.slice A ks.length c) ∧ ks.Perm (M.map (·.1)) ∧ Own w' 32 4 A ks.length c (flat ks) ∧ (∀ g, A = some ⟨g, 0, none⟩ → w.heap.size ≤ g) ∧ Fr N0 w w' := by
  have k := callsIn_wide.1 (apseq_in Fence.wide 3 trivial trivial rfl (Nat.le_refl _) Bm b M w hBm hc hM hMl)
  clear hBm hc hM hMl
  go_enter Tryz.func55, Tryz.ntmps55
  go_wp2_with fail
  refine k.mono ?_
  rintro e w2 ⟨v, ks, rfl, hp, ho, hb⟩
  obtain ⟨A, c, rfl, h1, h2⟩ := own_of_row ho
  have HO := Lib.hid h1
  have HN := Lib.hid h2
  have HB := Lib.hid (Fr.of_below (S := N0) hb)
  have HP := Lib.hid hp
  clear ho h1 h2 hb hp k
  go_wp2_with fail
  go_ret
  exact ⟨A, c, ks, rfl, HP.out, HO.out, HN.out, HB.out⟩
set_option maxHeartbeats 3200000 in
set_option maxRecDepth 100000 in
theorem sorted_ (Bm b : Nat) (M : List (Px × Sl)) (L : List Td) (w : World) (hBm : Bm < w.heap.size) (hc : w.cell? ⟨Bm, 0, none⟩ = some (.map (some b))) (hM : MapIs Tryz.prog 32 pxV slV w b M) (hMl : M.length ≤ 90) (hK : (M.map (·.1)).Perm (prefsT L)) (hrow : RowT clsA L) :
    Calls Tryz.prog 35 #[.func (.func 57) #[] #[.pointer (some ⟨Bm, 0, none⟩)], .func (.func 37) #[] #[]] w fun e w' =>
      ∃ v, e = .returned v ∧ NewXs w w' v (prefsT L) := by
  have k := collect_ Bm b M w hBm hc hM hMl
  have HK := Lib.hid hK
  have HR := Lib.hid hrow
  clear hBm hc hM hK hrow
  go_enter Tryz.func35, Tryz.ntmps35
  go_wp2_with fail
  refine k.mono ?_
  rintro e w2 ⟨A, c, ks, rfl, hp, ho, hn, hf⟩
  have hpk := hp.trans HK.out
  have hlen : ks.length ≤ 90 := by
    have := hp.length_eq
    rw [List.length_map] at this
    omega
  have KS := srtx_ A c ks ho (fun p hp' => HR.out.px (hpk.mem_iff.1 hp')) (by omega)
  have HPK := Lib.hid hpk
  have HN := Lib.hid hn
  have HF := Lib.hid hf
  clear k hp ho hn hf hpk hlen hMl
  generalize ks.length = n at *
  go_wp2_with fail
  refine KS.mono ?_
  rintro e w3 ⟨rfl, ks', hp', hs', ho', hf'⟩
  have e := sorted_prefs HR.out (hp'.trans HPK.out) hs'
  subst e
  have hl : n = (prefsT L).length := by have := ho'.1; rw [flat_length] at this; omega
  subst hl
  have HO := Lib.hid ho'
  have HF2 := Lib.hid (HF.out.step hf' fun i hi => .inr (HN.out i hi))
  clear hp' hs' ho' hf' KS
  go_wp2_with fail
  go_ret
  exact ⟨_, rfl, A, c, rfl, HO.out, HF2.out, HN.out⟩
set_option maxHeartbeats 3200000 in
set_option maxRecDepth 100000 in
theorem prf_ {w : World} (r : Nat) (Ft : Nat → Prop) (L : List Td) (h : RibIs w r Ft L) :
    Calls Tryz.prog 12 #[.pointer (some ⟨r, 0, none⟩)] w fun e w' => ∃ v, e = .returned v ∧ NewXs w w' v (prefsT L) := by
  obtain ⟨b, M, hB, hM, hR, hFb⟩ := h.mem
  have hMl : M.length ≤ 90 := by rw [hR.len hM.apart h.row.up]; exact h.row.many
  have hkeys := hR.keys hM.apart h.row.up
  have k1 := keysf_ (some b) w
  have k2 := sorted_ w.heap.size b M L (w.alloc (.cells #[.map (some b)] 59)) (by simp) ((Blk.new w 59 #[.map (some b)]).cell 0) (hM.alloc _) hMl hkeys h.row
  have cr := hB.c1'
  have hltr := hB.lt
  have HF := Lib.hid ((Fr.refl N0 w).alloc (.cells #[.map (some b)] 59))
  clear h hB hM hR hFb hMl hkeys
  go_enter Tryz.func12, Tryz.ntmps12
  go_wp2_with fail
  refine k1.mono ?_
  rintro e w2 ⟨rfl, rfl⟩
  go_wp2_with fail
  refine k2.mono ?_
  rintro e w3 ⟨v, rfl, A, c, rfl, ho, hf, hn⟩
  have HO := Lib.hid ho
  have HF2 := Lib.hid (HF.out.trans hf)
  have HN := Lib.hid fun g hg => Nat.le_trans HF.out.size (hn g hg)
  clear ho hf hn k1 k2
  go_wp2_with fail
  go_ret
  exact ⟨_, rfl, A, c, rfl, HO.out, HF2.out, HN.out⟩
end Go.Proofs.YtnklbeigikcfkaaGreatDoor
