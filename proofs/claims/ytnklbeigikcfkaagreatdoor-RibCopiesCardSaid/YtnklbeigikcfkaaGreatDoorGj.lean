/- The document's rib in memory: one row. The document's rib: a new one, its prefixes, the best path, those that hold an address. The document's rib: its prefixes, those that hold an address. The document's rib: where a path of the same way stands; the row without one. -/
import Derived.Test.YtnklbeigikcfkaaGreatDoorRis
import Derived.Test.YtnklbeigikcfkaaGreatDoorRp4
import Derived.Test.YtnklbeigikcfkaaGreatDoorGc
import Derived.Test.YtnklbeigikcfkaaGreatDoorGi
import Derived.Test.YtnklbeigikcfkaaGreatDoorApm
namespace Go.Proofs.YtnklbeigikcfkaaGreatDoor
open Go.Proofs Go.RowKit
instance cellsTd : Cells Td 11 where
  cs u := Px.cs u.1 ++ Pa.cs u.2
  len _ := rfl
  pos := by decide
  one u v hv := by
    simp [Px.cs, Pa.cs] at hv
    rcases hv with rfl | rfl | rfl | rfl | rfl | rfl | rfl | rfl | rfl | rfl | rfl <;> rfl
/-- Block q is the document's rib with the row L; what it is made of lies among F. -/
structure Rf (w : World) (q : Nat) (F : Nat → Prop) (L : List Td) : Prop where
  mem : ∃ A c, Blk w q 64 #[.slice A L.length c] ∧ Own w 88 11 A L.length c (flat L) ∧ ∀ g, A = some ⟨g, 0, none⟩ → F g
  at_ : F q
  row : RowT clsA L
  lt : ∀ i, F i → i < w.heap.size
/-- Behind a step that turned nothing but its own. -/
def RfTo (w : World) (q : Nat) (F : Nat → Prop) (L : List Td) (w' : World) : Prop := ∃ F', Rf w' q F' L ∧ (∀ i, F' i → F i ∨ w.heap.size ≤ i) ∧ Fr F w w'
section
variable {w w' : World} {q : Nat} {F S : Nat → Prop} {L : List Td}
theorem Rf.fr (h : Rf w q F L) (hf : Fr S w w') (hS : ∀ i, F i → ¬ S i) : Rf w' q F L := by
  obtain ⟨A, c, h1, h2, h3⟩ := h.mem
  exact ⟨⟨A, c, h1.fr hf (hS q h.at_), h2.fr hf fun g e => hS g (h3 g e), h3⟩, h.at_, h.row, fun i hi => Nat.lt_of_lt_of_le (h.lt i hi) hf.size⟩
theorem Rf.n0 (h : Rf w q F L) (hf : Fr N0 w w') : Rf w' q F L := h.fr hf fun _ _ => id
theorem Rf.to (h : Rf w q F L) (hf : Fr N0 w w') : RfTo w q F L w' := ⟨F, h.n0 hf, fun _ => .inl, hf.mono fun _ _ h => h.elim⟩
/-- The row stored anew. -/
theorem Rf.new_ {A : Option Addr} {c : Nat} {L' : List Td} (h : Rf w q F L) (hf : Fr N0 w w') (ho : Own w' 88 11 A L'.length c (flat L')) (hn : ∀ g, A = some ⟨g, 0, none⟩ → w.heap.size ≤ g) (hr : RowT clsA L') :
    RfTo w q F L' (w'.setCell ⟨q, 0, none⟩ (.slice A L'.length c)) := by
  obtain ⟨A0, c0, h1, _, _⟩ := h.mem
  have hq := h.lt q h.at_
  refine ⟨fun i => F i ∨ A = some ⟨i, 0, none⟩, ⟨⟨A, c, ?_, ?_, fun g e => .inr e⟩, .inl h.at_, hr, ?_⟩, ?_, ?_⟩
  · exact (h1.fr hf id).set_ 0 _
  · exact ho.fr ((Fr.refl (fun i => i = q) w').setCell (.inl rfl) _) fun g e k => by have := hn g e; omega
  · rintro i (hi | hi)
    · have := h.lt i hi
      have := hf.size
      simp [World.setCell]
      omega
    · have := ho.lt hi
      simpa [World.setCell] using this
  · rintro i (hi | hi)
    · exact .inl hi
    · exact .inr (hn i hi)
  · exact (hf.mono fun _ _ h => h.elim).setCell (.inl h.at_) _
end
theorem pathsT_snoc (L : List Td) (u : Td) (p : Px) : pathsT (L ++ [u]) p = if u.1 = p then pathsT L p ++ [u.2] else pathsT L p := by
  unfold pathsT
  rw [List.filter_append, List.map_append]
  by_cases h : u.1 = p
  · rw [if_pos h, List.filter_cons, if_pos (decide_eq_true h)]
    simp
  · rw [if_neg h, List.filter_cons, if_neg (by simpa using h)]
    simp
theorem take_snoc {α : Type} {l : List α} {j : Nat} {x : α} (h : l[j]? = some x) : l.take (j + 1) = l.take j ++ [x] := by
  obtain ⟨hj, e⟩ := List.getElem?_eq_some_iff.1 h
  rw [List.take_succ_eq_append_getElem hj, e]
theorem pathsT_len (L : List Td) (p : Px) : (pathsT L p).length ≤ L.length := by
  unfold pathsT
  rw [List.length_map]
  exact List.length_filter_le _ _
theorem Own.e11 {w : World} {e : TypeId} {g n c : Nat} {l : List Td} (h : Own w e 11 (some ⟨g, 0, none⟩) n c (flat l)) (hn : l.length = n) {j : Nat} {x : Td} (hj : l[j]? = some x) :
    (w.cell? ⟨g, j * 11, none⟩ = some (.bool x.1.ad.six) ∧ w.cell? ⟨g, j * 11 + 1, none⟩ = some (.int .u64 (x.1.ad.hi : Int)) ∧ w.cell? ⟨g, j * 11 + 2, none⟩ = some (.int .u64 (x.1.ad.lo : Int)) ∧ w.cell? ⟨g, j * 11 + 3, none⟩ = some (.int .i64 x.1.bits)) ∧
    w.cell? ⟨g, j * 11 + 4, none⟩ = some (.int .i64 x.2.proto) ∧ w.cell? ⟨g, j * 11 + 5, none⟩ = some (.int .i64 x.2.metric) ∧ w.cell? ⟨g, j * 11 + 6, none⟩ = some (.bool x.2.via.six) ∧ w.cell? ⟨g, j * 11 + 7, none⟩ = some (.int .u64 (x.2.via.hi : Int)) ∧ w.cell? ⟨g, j * 11 + 8, none⟩ = some (.int .u64 (x.2.via.lo : Int)) ∧ w.cell? ⟨g, j * 11 + 9, none⟩ = some (.int .i64 x.2.port) ∧ w.cell? ⟨g, j * 11 + 10, none⟩ = some (.bool x.2.away) :=
  ⟨⟨h.elem hn hj 0 (by decide), h.elem hn hj 1 (by decide), h.elem hn hj 2 (by decide), h.elem hn hj 3 (by decide)⟩, h.elem hn hj 4 (by decide), h.elem hn hj 5 (by decide), h.elem hn hj 6 (by decide), h.elem hn hj 7 (by decide), h.elem hn hj 8 (by decide), h.elem hn hj 9 (by decide), h.elem hn hj 10 (by decide)⟩
section
variable {w : World}
set_option maxHeartbeats 6400000 in
set_option maxRecDepth 100000 in
theorem rf_paths (q : Nat) (F : Nat → Prop) (L : List Td) (p : Px) (h : Rf w q F L) :
    Calls Tryz.prog 32 #[.pointer (some ⟨q, 0, none⟩), pxV p] w fun e w' => ∃ v, e = .returned v ∧ NewPs w w' v (pathsT L p) := by
  obtain ⟨A, c, hB, hO, _⟩ := h.mem
  have hle := len_le h.row
  obtain ⟨n, hn⟩ : ∃ n, n = L.length := ⟨_, rfl⟩
  rw [← hn] at hB hO hle
  have HN := Lib.hid hn.symm
  have HB := Lib.hid hB
  have HO := Lib.hid hO
  have hqw := hB.lt
  clear h hB hO hn
  have PS := Lib.hid fun (j : Nat) (u : Td) (hj : L[j]? = some u) => (congrArg (fun l => pathsT l p) (take_snoc hj)).trans (pathsT_snoc (L.take j) u p)
  have PE := Lib.hid (fun (u : Px) W => eql_px u p W)
  have PG := Lib.hid (fun (u : Px) X Y W => guard_px .eql X Y u p W)
  obtain ⟨P, hP⟩ : ∃ P, P = p := ⟨_, rfl⟩
  obtain ⟨K, hK⟩ : ∃ K, K = pathsT L p := ⟨_, rfl⟩
  rw [← hK]
  rw [← hP] at PS hK
  have HPP := Lib.hid hP
  have HK := Lib.hid hK
  clear hP hK
  obtain ⟨⟨s, h1, l⟩, m⟩ := p
  unfold pxV at PE PG ⊢
  simp only at PE PG
  go_enter Tryz.func32, Tryz.ntmps32
  go_wp2_with fail
  have HA1 := Lib.hid (Blk.new w 32 #[Value.bool s, Value.int .u64 (h1 : Int), Value.int .u64 (l : Int), Value.int .i64 m])
  have HF1 := Lib.hid (Fr.alloc (Fr.refl N0 w) (.cells #[Value.bool s, Value.int .u64 (h1 : Int), Value.int .u64 (l : Int), Value.int .i64 m] 32))
  generalize w.alloc _ = w1 at *
  obtain ⟨g1, hg1⟩ : ∃ g1, g1 = w.heap.size := ⟨_, rfl⟩
  rw [← hg1] at HA1 ⊢
  have HG1 : Hid (w.heap.size ≤ g1) := Lib.hid (by omega)
  clear hg1
  have HZ1 : Hid (∀ W, Fr N0 w1 W → Blk W g1 32 #[Value.bool s, Value.int .u64 (h1 : Int), Value.int .u64 (l : Int), Value.int .i64 m]) := Lib.hid fun W hf => HA1.out.fr hf id
  have F := Lib.hid (Fr.refl N0 w1)
  go_loopw [5, 6] (fun vo vi wr => ∃ (j c : Nat) (A : Option Addr) (o : List Pa), j ≤ n ∧ vi = .int .i64 (j : Int) ∧ vo = .slice A o.length c ∧ o = pathsT (L.take j) P ∧ Own wr 34 7 A o.length c (flat o) ∧ (∀ g, A = some ⟨g, 0, none⟩ → w1.heap.size ≤ g) ∧ Fr N0 w1 wr) (fun _ vi _ => n - (intOf vi).toNat)
  case atStart => exact ⟨0, 0, none, [], Nat.zero_le _, rfl, rfl, by simp [pathsT], Own.nil_ _ _ _, nofun, Fr.refl _ _⟩
  case round =>
    obtain ⟨j, c', A', o, hj, rfl, rfl, ho, hO', hA', hF⟩ := hrel
    have hol : o.length ≤ 360 := by rw [ho]; have := pathsT_len (L.take j) P; rw [List.length_take] at this; omega
    have HOE := Lib.hid ho
    have HO' := Lib.hid hO'
    have HA' := Lib.hid hA'
    have F2 := Lib.hid hF
    have cr := (HB.out.fr (HF1.out.trans hF) id).c1'
    obtain ⟨x0, x1, x2, x3⟩ := (HZ1.out _ hF).c4
    clear ho hO' hA' hF
    by_cases hjn : j < n
    · have hjI : (j : Int) < (n : Int) := by omega
      obtain ⟨u, hu⟩ : ∃ u, L[j]? = some u := ⟨_, List.getElem?_eq_getElem (by have := HN.out; omega)⟩
      obtain ⟨g, rfl⟩ := HO.out.some_ (by omega)
      obtain ⟨⟨y0, y1, y2, y3⟩, y4, y5, y6, y7, y8, y9, y10⟩ := (HO.out.fr (HF1.out.trans F2.out) fun _ _ => id).e11 HN.out hu
      have hps := PS.out j u hu
      rw [← HOE.out] at hps
      have HPS := Lib.hid hps
      have E := PE.out u.1
      have EG := PG.out u.1
      rw [← HPP.out] at E
      clear hu hps
      by_cases hup : u.1 = P
      · have HPO := Lib.hid (HPS.out.trans (if_pos hup))
        rw [decide_eq_true hup] at E
        clear HPS hup
        obtain ⟨⟨⟨us, uh, ul⟩, um⟩, ⟨xp, xm, ⟨xs, xh, xl⟩, xo, xa⟩⟩ := u
        simp only at E EG y0 y1 y2 y3 y4 y5 y6 y7 y8 y9 y10
        go_wp2_with fail
        go_region
        obtain ⟨i0, hi, hz0, hz1, hz2⟩ := info_parts zero7
        go_wp2_with (at_builtin; refine wpList_append1 wr.drew rfl (.tmp 26) (.tmp 35) 42 rfl 34 i0 _ 7 56 Tryz.underlying42 hi hz0 hz1 hz2 rfl (by omega) A' o.length c' _ rfl (HO'.out.fr (Fr.refl N0 _).drew fun _ _ => id) (Pa.cs ⟨xp, xm, ⟨xs, xh, xl⟩, xo, xa⟩) rfl rfl ?_ ?_ ?_ ?_)
        · intro u hu; simp [Pa.cs] at hu; rcases hu with rfl | rfl | rfl | rfl | rfl | rfl | rfl <;> rfl
        · omega
        · omega
        · intro g' c2 w5 ho f7 hg'
          have e1 : flat o ++ Pa.cs ⟨xp, xm, ⟨xs, xh, xl⟩, xo, xa⟩ = flat (o ++ [⟨xp, xm, ⟨xs, xh, xl⟩, xo, xa⟩]) := by rw [flat_append, flat_one]; rfl
          rw [e1] at ho
          have HO5 := Lib.hid ho
          have F5 := Lib.hid (F2.out.drew.step f7 fun i hi => .inr (HA'.out i hi))
          have HA5 := Lib.hid (show ∀ g, some (⟨g', 0, none⟩ : Addr) = some ⟨g, 0, none⟩ → w1.heap.size ≤ g from by
            intro g e
            cases e
            rcases hg' with k | k
            · exact HA'.out _ k
            · exact Nat.le_trans F2.out.size k)
          have hl1 : o.length + 1 = (o ++ [(⟨xp, xm, ⟨xs, xh, xl⟩, xo, xa⟩ : Pa)]).length := by simp
          clear ho f7 hg' y0 y1 y2 y3 y4 y5 y6 y7 y8 y9 y10 x0 x1 x2 x3 hi hz0 hz1 hz2 HO' F2 HA' cr E EG
          go_wp2_with fail
          go_roundw
          case rel => exact ⟨j + 1, c2, some ⟨g', 0, none⟩, o ++ [⟨xp, xm, ⟨xs, xh, xl⟩, xo, xa⟩], by omega, by go_num, by rw [← hl1], HPO.out.symm, by rw [← hl1]; exact HO5.out, HA5.out, F5.out⟩
          case measure => (simp [intOf]; try omega)
      · have HPO := Lib.hid (HPS.out.trans (if_neg hup))
        rw [decide_eq_false hup] at E
        clear HPS hup
        obtain ⟨⟨⟨us, uh, ul⟩, um⟩, ⟨xp, xm, ⟨xs, xh, xl⟩, xo, xa⟩⟩ := u
        simp only at E EG y0 y1 y2 y3 y4 y5 y6 y7 y8 y9 y10
        go_wp2_with fail
        go_region
        go_wp2_with fail
        go_roundw
        case rel => exact ⟨j + 1, c', A', o, by omega, by go_num, rfl, HPO.out.symm, HO'.out.fr (Fr.refl N0 _).drew fun _ _ => id, HA'.out, F2.out.drew⟩
        case measure => (simp [intOf]; try omega)
    · have hjI : ¬ (j : Int) < (n : Int) := by omega
      have HOL := Lib.hid (show o = K by rw [HK.out, HOE.out, List.take_of_length_le (by have := HN.out; omega)])
      clear HOE
      go_wp2_with fail
      go_ret
      obtain rfl := HOL.out
      exact ⟨_, rfl, A', c', rfl, HO'.out, HF1.out.trans F2.out, fun g e => Nat.le_trans HF1.out.size (HA'.out g e)⟩
end
end Go.Proofs.YtnklbeigikcfkaaGreatDoor
namespace Go.Proofs.YtnklbeigikcfkaaGreatDoor
open Go.Proofs Go.RowKit
theorem prefsT_snoc (v : Td) : ∀ (l : List Td) (u : Td), prefsT (l ++ [u, v]) = if u.1 = v.1 then prefsT (l ++ [u]) else prefsT (l ++ [u]) ++ [v.1]
  | [], u => by
    show prefsT [u, v] = _
    rw [prefsT_cons2]
    by_cases e : u.1 = v.1
    · rw [if_pos e, if_pos e]
      simp [prefsT, e]
    · rw [if_neg e, if_neg e]
      rfl
  | [a], u => by
    have ih := prefsT_snoc v [] u
    simp only [List.nil_append, List.cons_append] at ih ⊢
    rw [prefsT_cons2, ih, prefsT_cons2]
    by_cases e : a.1 = u.1 <;> by_cases k : u.1 = v.1 <;> simp [e, k]
  | a :: b :: r, u => by
    have ih := prefsT_snoc v (b :: r) u
    simp only [List.cons_append] at ih ⊢
    rw [prefsT_cons2, ih, prefsT_cons2]
    by_cases e : a.1 = b.1 <;> by_cases k : u.1 = v.1 <;> simp [e, k]
theorem prefsT_le : ∀ L : List Td, (prefsT L).length ≤ L.length
  | [] => Nat.le_refl _
  | [u] => Nat.le_refl _
  | u :: v :: r => by
    rw [prefsT_cons2]
    have := prefsT_le (v :: r)
    split <;> simp only [List.length_cons] at * <;> omega
/-- The prefixes of the first ones, and of one more. -/
theorem prefs_take {L : List Td} {j : Nat} {u v : Td} (hu : L[j]? = some u) (hv : L[j + 1]? = some v) : prefsT (L.take (j + 2)) = if u.1 = v.1 then prefsT (L.take (j + 1)) else prefsT (L.take (j + 1)) ++ [v.1] := by
  rw [show j + 2 = (j + 1) + 1 from rfl, take_snoc hv, take_snoc hu, List.append_assoc]
  exact prefsT_snoc v (L.take j) u
theorem prefs_take1 {L : List Td} {u : Td} (hu : L[0]? = some u) : prefsT (L.take 1) = [u.1] := by
  rw [take_snoc hu]
  rfl
section
variable {w : World}
set_option maxHeartbeats 1600000 in
set_option maxRecDepth 100000 in
theorem rf_new : Calls Tryz.prog 7 #[] w fun e w' => ∃ g, e = .returned (.pointer (some ⟨g, 0, none⟩)) ∧ Rf w' g (fun i => i = g) [] ∧ Fr N0 w w' ∧ w.heap.size ≤ g := by
  have HF := Lib.hid ((Fr.refl N0 w).alloc (.cells #[.slice none 0 0] 64))
  have HB := Lib.hid (Blk.new w 64 #[.slice none 0 0])
  go_enter Tryz.func7, Tryz.ntmps7
  go_wp2_with fail
  go_ret
  exact ⟨_, rfl, ⟨⟨none, 0, HB.out, Own.nil_ _ _ _, nofun⟩, rfl, RowT.nil, fun i hi => by subst hi; exact HB.out.lt⟩, HF.out, Nat.le_refl _⟩
set_option maxHeartbeats 6400000 in
set_option maxRecDepth 100000 in
theorem rf_best (q : Nat) (F : Nat → Prop) (L : List Td) (p : Px) (h : Rf w q F L) :
    Calls Tryz.prog 29 #[.pointer (some ⟨q, 0, none⟩), pxV p] w fun e w' => e = .returned (.tuple #[paV (bestT L p).1, .bool (bestT L p).2]) ∧ Fr N0 w w' := by
  have KP := Lib.hid fun (W : World) (hW : Fr N0 w W) => rf_paths (w := W) q F L p (h.n0 hW)
  have HBE := Lib.hid (show bestT L p = match pathsT L p with | [] => (zeroPa, false) | x :: _ => (x, true) from rfl)
  obtain ⟨B, hB⟩ : ∃ B, B = bestT L p := ⟨_, rfl⟩
  rw [← hB] at HBE ⊢
  have h4 := h.row.four p
  clear h hB
  obtain ⟨K, hK⟩ : ∃ K, K = pathsT L p := ⟨_, rfl⟩
  rw [← hK] at KP HBE h4
  clear hK
  obtain ⟨⟨s, h1, l⟩, m⟩ := p
  unfold pxV at KP ⊢
  simp only at KP ⊢
  go_enter Tryz.func29, Tryz.ntmps29
  go_wp2_with fail
  have HA1 := Lib.hid ((Blk.new w 32 #[Value.bool s, Value.int .u64 (h1 : Int), Value.int .u64 (l : Int), Value.int .i64 m]).alloc (.cells #[.int .i64 0, .int .i64 0, .bool false, .int .u64 0, .int .u64 0, .int .i64 0, .bool false] 34))
  have HA2 := Lib.hid (Blk.alloc2 w (.cells #[Value.bool s, Value.int .u64 (h1 : Int), Value.int .u64 (l : Int), Value.int .i64 m] 32) 34 #[.int .i64 0, .int .i64 0, .bool false, .int .u64 0, .int .u64 0, .int .i64 0, .bool false])
  have HF1 := Lib.hid (Fr.alloc (Fr.alloc (Fr.refl N0 w) (.cells #[Value.bool s, Value.int .u64 (h1 : Int), Value.int .u64 (l : Int), Value.int .i64 m] 32)) (.cells #[.int .i64 0, .int .i64 0, .bool false, .int .u64 0, .int .u64 0, .int .i64 0, .bool false] 34))
  generalize World.alloc (w.alloc _) _ = w1 at *
  obtain ⟨g2, hg2⟩ : ∃ g2, g2 = w.heap.size + 1 := ⟨_, rfl⟩
  rw [← hg2] at HA2 ⊢
  have HG2 : Hid (w.heap.size ≤ g2) := Lib.hid (by omega)
  obtain ⟨g1, hg1⟩ : ∃ g1, g1 = w.heap.size := ⟨_, rfl⟩
  rw [← hg1] at HA1 ⊢
  have HG1 : Hid (w.heap.size ≤ g1) := Lib.hid (by omega)
  have HN1_2 : Hid (g1 ≠ g2) := Lib.hid (by omega)
  clear hg1 hg2
  have HZ1 : Hid (∀ W, Fr N0 w1 W → Blk W g1 32 #[Value.bool s, Value.int .u64 (h1 : Int), Value.int .u64 (l : Int), Value.int .i64 m]) := Lib.hid fun W hf => HA1.out.fr hf id
  have HZ2 : Hid (∀ W, Fr N0 w1 W → Blk W g2 34 #[.int .i64 0, .int .i64 0, .bool false, .int .u64 0, .int .u64 0, .int .i64 0, .bool false]) := Lib.hid fun W hf => HA2.out.fr hf id
  have F := Lib.hid (Fr.refl N0 w1)
  obtain ⟨z1_0, z1_1, z1_2, z1_3⟩ := (HZ1.out _ F.out).c4
  obtain ⟨z2_0, z2_1, z2_2, z2_3, z2_4, z2_5, z2_6⟩ := (HZ2.out _ F.out).c7
  refine (KP.out _ HF1.out).mono ?_
  rintro e w2 ⟨v, rfl, A, c, rfl, ho, hf, hn⟩
  have F2 := Lib.hid (HF1.out.trans hf)
  have HO := Lib.hid ho
  have HN := Lib.hid hn
  have HB2 := Lib.hid (HZ2.out _ hf)
  clear ho hn hf KP
  cases K with
  | nil =>
    obtain rfl : B = (zeroPa, false) := HBE.out
    clear HBE
    go_wp2_with (refine wpList_store_row rfl 34 _ _ rfl g2 _ rfl rfl _ _ HB2.out rfl rfl (by simp [Value.oneCell']) ?_)
    refine ret_cell2 rfl rfl (HB2.out.row _) Tryz.underlying34 rfl ⟨rfl, Fr.setRow F2.out (.inr HG2.out) _⟩
  | cons x r =>
    obtain rfl : B = (x, true) := HBE.out
    clear HBE
    obtain ⟨g, rfl⟩ := HO.out.some_ (by simp)
    obtain ⟨y0, y1, y2, y3, y4, y5, y6⟩ := HO.out.e7 (j := 0) (x := x) rfl rfl
    obtain ⟨xp, xm, ⟨xs, xh, xl⟩, xo, xa⟩ := x
    have hlen : (⟨xp, xm, ⟨xs, xh, xl⟩, xo, xa⟩ :: r : List Pa).length = r.length + 1 := rfl
    rw [hlen] at HO ⊢
    simp only [Nat.zero_mul, Nat.zero_add] at y0 y1 y2 y3 y4 y5 y6
    clear hlen
    go_wp2_with (refine wpList_store_row rfl 34 _ _ rfl g2 _ rfl rfl _ _ HB2.out rfl rfl (by simp [Value.oneCell']) ?_)
    refine ret_cell2 rfl rfl (HB2.out.row _) Tryz.underlying34 rfl ⟨rfl, Fr.setRow F2.out (.inr HG2.out) _⟩
end
end Go.Proofs.YtnklbeigikcfkaaGreatDoor
namespace Go.Proofs.YtnklbeigikcfkaaGreatDoor
open Go.Proofs Go.RowKit
section
variable {w : World}
set_option maxHeartbeats 12800000 in
set_option maxRecDepth 100000 in
theorem rf_prefs (q : Nat) (F : Nat → Prop) (L : List Td) (h : Rf w q F L) :
    Calls Tryz.prog 31 #[.pointer (some ⟨q, 0, none⟩)] w fun e w' => ∃ v, e = .returned v ∧ NewXs w w' v (prefsT L) := by
  obtain ⟨A, c, hB, hO, _⟩ := h.mem
  have hle := len_le h.row
  obtain ⟨n, hn⟩ : ∃ n, n = L.length := ⟨_, rfl⟩
  rw [← hn] at hB hO hle
  have HN := Lib.hid hn.symm
  have HB := Lib.hid hB
  have HO := Lib.hid hO
  have hqw := hB.lt
  clear h hB hO hn
  obtain ⟨K, hK⟩ : ∃ K, K = prefsT L := ⟨_, rfl⟩
  rw [← hK]
  have HK := Lib.hid hK
  clear hK
  go_enter Tryz.func31, Tryz.ntmps31
  go_wp2_with fail
  go_loopw [3, 4] (fun vo vi wr => ∃ (j c : Nat) (A : Option Addr) (o : List Px), j ≤ n ∧ vi = .int .i64 (j : Int) ∧ vo = .slice A o.length c ∧ o = prefsT (L.take j) ∧ Own wr 32 4 A o.length c (flat o) ∧ (∀ g, A = some ⟨g, 0, none⟩ → w.heap.size ≤ g) ∧ Fr N0 w wr) (fun _ vi _ => n - (intOf vi).toNat)
  case atStart => exact ⟨0, 0, none, [], Nat.zero_le _, rfl, rfl, by simp [prefsT], Own.nil_ _ _ _, nofun, Fr.refl _ _⟩
  case round =>
    obtain ⟨j, c', A', o, hj, rfl, rfl, ho, hO', hA', hF⟩ := hrel
    have hol : o.length ≤ 360 := by rw [ho]; have := prefsT_le (L.take j); rw [List.length_take] at this; omega
    have HOE := Lib.hid ho
    have HO' := Lib.hid hO'
    have HA' := Lib.hid hA'
    have F2 := Lib.hid hF
    have cr := (HB.out.fr hF id).c1'
    clear ho hO' hA' hF
    by_cases hjn : j < n
    · have hjI : (j : Int) < (n : Int) := by omega
      obtain ⟨v, hv⟩ : ∃ u, L[j]? = some u := ⟨_, List.getElem?_eq_getElem (by have := HN.out; omega)⟩
      obtain ⟨g, rfl⟩ := HO.out.some_ (by omega)
      have hown := HO.out.fr F2.out fun _ _ => id
      obtain ⟨⟨y0, y1, y2, y3⟩, _⟩ := hown.e11 HN.out hv
      have key : (∃ P : Px, o ++ [v.1] = P :: [] ∧ j = 0 ∧ prefsT (L.take (j + 1)) = o ++ [v.1]) ∨ ∃ (k : Nat) (u : Td), j = k + 1 ∧ L[k]? = some u ∧ prefsT (L.take (j + 1)) = if u.1 = v.1 then o else o ++ [v.1] := by
        cases j with
        | zero =>
          left
          have e := prefs_take1 hv
          have eo : o = [] := by rw [HOE.out]; simp [prefsT]
          subst eo
          exact ⟨v.1, rfl, rfl, e⟩
        | succ k =>
          right
          obtain ⟨u, hu⟩ : ∃ u, L[k]? = some u := ⟨_, List.getElem?_eq_getElem (by have := HN.out; omega)⟩
          exact ⟨k, u, rfl, hu, by rw [HOE.out]; exact prefs_take hu hv⟩
      have ho2 := Lib.hid hown
      clear hown
      rcases key with ⟨P, hP, rfl, hpt⟩ | ⟨k, u, rfl, hu, hpt⟩
      · have HPT := Lib.hid hpt
        clear hpt hP hv ho2
        obtain ⟨⟨⟨us, uh, ul⟩, um⟩, x⟩ := v
        simp only [Nat.zero_mul, Nat.zero_add] at y0 y1 y2 y3
        have hn0I : (0 : Int) < (n : Int) := by omega
        go_wp2_with fail
        go_region
        obtain ⟨i0, hi, hz0, hz1, hz2⟩ := info_parts infoPx
        go_wp2_with (at_builtin; refine wpList_append1 wr.drew rfl (.tmp 36) (.tmp 45) 44 rfl 32 i0 _ 4 32 Tryz.underlying44 hi hz0 hz1 hz2 rfl (by omega) A' o.length c' _ rfl (HO'.out.fr (Fr.refl N0 _).drew fun _ _ => id) (Px.cs ⟨⟨us, uh, ul⟩, um⟩) rfl rfl ?_ ?_ ?_ ?_)
        · intro u hu; simp [Px.cs] at hu; rcases hu with rfl | rfl | rfl | rfl <;> rfl
        · omega
        · omega
        · intro g' c2 w5 ho f7 hg'
          have e1 : flat o ++ Px.cs ⟨⟨us, uh, ul⟩, um⟩ = flat (o ++ [⟨⟨us, uh, ul⟩, um⟩]) := by rw [flat_append, flat_one]; rfl
          rw [e1] at ho
          have HO5 := Lib.hid ho
          have F5 := Lib.hid (F2.out.drew.step f7 fun i hi => .inr (HA'.out i hi))
          have HA5 := Lib.hid (show ∀ g, some (⟨g', 0, none⟩ : Addr) = some ⟨g, 0, none⟩ → w.heap.size ≤ g from by
            intro g e
            cases e
            rcases hg' with k | k
            · exact HA'.out _ k
            · exact Nat.le_trans F2.out.size k)
          have hl1 : o.length + 1 = (o ++ [(⟨⟨us, uh, ul⟩, um⟩ : Px)]).length := by simp
          clear ho f7 hg' y0 y1 y2 y3 hi hz0 hz1 hz2 HO' F2 HA' cr
          go_wp2_with fail
          go_roundw
          case rel => exact ⟨0 + 1, c2, some ⟨g', 0, none⟩, o ++ [⟨⟨us, uh, ul⟩, um⟩], by omega, by go_num, by rw [← hl1], HPT.out.symm, by rw [← hl1]; exact HO5.out, HA5.out, F5.out⟩
          case measure => (simp [intOf]; try omega)
      · have HU := Lib.hid hu
        have hke := ho2.out.e11 HN.out HU.out
        obtain ⟨⟨x0, x1, x2, x3⟩, _⟩ := hke
        have E := fun W => nq_px v.1 u.1 W
        have EG := fun X Y W => guard_px .neq X Y v.1 u.1 W
        have hkI : (k : Int) < (n : Int) := by omega
        have hkI1 : (k : Int) + 1 < (n : Int) := by omega
        have hkw : IntKind.i64.wrap ((k : Int) + 1 - 1) = (k : Int) := by rw [Int.add_sub_cancel]; exact IntWalk.i64_in _ (by omega)
        have hk0 : 0 ≤ (k : Int) := by omega
        have hk1 : 0 ≤ (k : Int) + 1 := by omega
        have hkn : ((k : Int) + 1).toNat = k + 1 := by omega
        have hkz : ((k : Int) + 1 == 0) = false := by rw [beq_eq_false_iff_ne]; omega
        have HPT0 := Lib.hid hpt
        clear hpt hu hv
        by_cases huv : u.1 = v.1
        · have HPT := Lib.hid (HPT0.out.trans (if_pos huv))
          rw [decide_eq_true huv.symm] at E
          clear HPT0 huv
          obtain ⟨⟨⟨us, uh, ul⟩, um⟩, x⟩ := v
          obtain ⟨⟨⟨vs, vh, vl⟩, vm⟩, y⟩ := u
          unfold pxV at E EG
          simp only at y0 y1 y2 y3 x0 x1 x2 x3 E EG
          go_wp2_with fail
          go_region
          go_wp2_with fail
          go_roundw
          case rel => exact ⟨k + 1 + 1, c', A', o, by omega, by go_num, rfl, HPT.out.symm, HO'.out.fr (Fr.refl N0 _).drew fun _ _ => id, HA'.out, F2.out.drew⟩
          case measure => (simp [intOf]; try omega)
        · have HPT := Lib.hid (HPT0.out.trans (if_neg huv))
          rw [decide_eq_false (fun e => huv e.symm)] at E
          clear HPT0 huv
          obtain ⟨⟨⟨us, uh, ul⟩, um⟩, x⟩ := v
          obtain ⟨⟨⟨vs, vh, vl⟩, vm⟩, y⟩ := u
          unfold pxV at E EG
          simp only at y0 y1 y2 y3 x0 x1 x2 x3 E EG HPT
          go_wp2_with fail
          go_region
          clear x0 x1 x2 x3 E EG
          obtain ⟨i0, hi, hz0, hz1, hz2⟩ := info_parts infoPx
          go_wp2_with (at_builtin; refine wpList_append1 wr.drew rfl (.tmp 36) (.tmp 45) 44 rfl 32 i0 _ 4 32 Tryz.underlying44 hi hz0 hz1 hz2 rfl (by omega) A' o.length c' _ rfl (HO'.out.fr (Fr.refl N0 _).drew fun _ _ => id) (Px.cs ⟨⟨us, uh, ul⟩, um⟩) rfl rfl ?_ ?_ ?_ ?_)
          · intro u hu; simp [Px.cs] at hu; rcases hu with rfl | rfl | rfl | rfl <;> rfl
          · omega
          · omega
          · intro g' c2 w5 ho f7 hg'
            have e1 : flat o ++ Px.cs ⟨⟨us, uh, ul⟩, um⟩ = flat (o ++ [⟨⟨us, uh, ul⟩, um⟩]) := by rw [flat_append, flat_one]; rfl
            rw [e1] at ho
            have HO5 := Lib.hid ho
            have F5 := Lib.hid (F2.out.drew.step f7 fun i hi => .inr (HA'.out i hi))
            have HA5 := Lib.hid (show ∀ g, some (⟨g', 0, none⟩ : Addr) = some ⟨g, 0, none⟩ → w.heap.size ≤ g from by
              intro g e
              cases e
              rcases hg' with k | k
              · exact HA'.out _ k
              · exact Nat.le_trans F2.out.size k)
            have hl1 : o.length + 1 = (o ++ [(⟨⟨us, uh, ul⟩, um⟩ : Px)]).length := by simp
            clear ho f7 hg' y0 y1 y2 y3 hi hz0 hz1 hz2 HO' F2 HA' cr
            go_wp2_with fail
            go_roundw
            case rel => exact ⟨k + 1 + 1, c2, some ⟨g', 0, none⟩, o ++ [⟨⟨us, uh, ul⟩, um⟩], by omega, by go_num, by rw [← hl1], HPT.out.symm, by rw [← hl1]; exact HO5.out, HA5.out, F5.out⟩
            case measure => (simp [intOf]; try omega)
    · have hjI : ¬ (j : Int) < (n : Int) := by omega
      have HOL := Lib.hid (show o = K by rw [HK.out, HOE.out, List.take_of_length_le (by have := HN.out; omega)])
      clear HOE
      go_wp2_with fail
      go_ret
      obtain rfl := HOL.out
      exact ⟨_, rfl, A', c', rfl, HO'.out, F2.out, HA'.out⟩
end
end Go.Proofs.YtnklbeigikcfkaaGreatDoor
namespace Go.Proofs.YtnklbeigikcfkaaGreatDoor
open Go.Proofs Go.RowKit
theorem infoTd : (Tryz.prog.info? 88).map (fun i => (i.zero, i.size, i.bytes)) = some (some (.agg #[.bool false, .int .u64 0, .int .u64 0, .int .i64 0, .int .i64 0, .int .i64 0, .bool false, .int .u64 0, .int .u64 0, .int .i64 0, .bool false]), 11, 88) := by kernel_rfl
theorem wayT_find (p : Px) (x : Pa) : ∀ l : List Td, ∃ i, i ≤ l.length ∧ (∀ j u, j < i → l[j]? = some u → wayT p x u = false) ∧ (∀ u, l[i]? = some u → wayT p x u = true)
  | [] => ⟨0, Nat.le_refl _, fun _ _ h => absurd h (by omega), fun y h => by simp at h⟩
  | a :: r => by
    cases h : wayT p x a with
    | true => exact ⟨0, by omega, fun _ _ h => absurd h (by omega), fun y hy => by simp only [List.getElem?_cons_zero, Option.some.injEq] at hy; exact hy ▸ h⟩
    | false =>
      obtain ⟨i, h1, h2, h3⟩ := wayT_find p x r
      refine ⟨i + 1, by simp only [List.length_cons]; omega, fun j y hj hy => ?_, fun y hy => h3 y (by simpa using hy)⟩
      cases j with
      | zero => simp only [List.getElem?_cons_zero, Option.some.injEq] at hy; exact hy ▸ h
      | succ j => exact h2 j y (by omega) (by simpa using hy)
section
variable {w : World}
set_option maxHeartbeats 12800000 in
set_option maxRecDepth 100000 in
theorem rf_way (q : Nat) (F : Nat → Prop) (L : List Td) (p : Px) (x : Pa) (h : Rf w q F L) (i : Nat) (hi : i ≤ L.length) (hbef : ∀ j u, j < i → L[j]? = some u → wayT p x u = false) (hat : ∀ u, L[i]? = some u → wayT p x u = true) (r : Int) (hr : r = if i < L.length then (i : Int) else -1) :
    Calls Tryz.prog 49 #[.pointer (some ⟨q, 0, none⟩), pxV p, paV x] w fun e w' => e = .returned (.int .i64 r) ∧ Fr N0 w w' := by
  obtain ⟨A, c, hB, hO, _⟩ := h.mem
  have hle := len_le h.row
  obtain ⟨n, hn⟩ : ∃ n, n = L.length := ⟨_, rfl⟩
  rw [← hn] at hB hO hle hi hr
  have HN := Lib.hid hn.symm
  have HB := Lib.hid hB
  have HO := Lib.hid hO
  have hqw := hB.lt
  have HBE := Lib.hid hbef
  have HAT := Lib.hid hat
  have HR := Lib.hid hr
  clear h hB hO hn hbef hat hr
  have PE := Lib.hid (fun (u : Px) W => eql_px u p W)
  have PG := Lib.hid (fun (u : Px) X Y W => guard_px .eql X Y u p W)
  have AE := Lib.hid (fun (u : Ad) W => eql_ad x.via u W)
  have AG := Lib.hid (fun (u : Ad) X Y W => guard_ad .eql X Y x.via u W)
  obtain ⟨⟨s, h1, l⟩, m⟩ := p
  obtain ⟨xp, xm, ⟨xs, xh, xl⟩, xo, xa⟩ := x
  unfold pxV at PE PG ⊢
  unfold adV at AE AG
  unfold paV
  simp only at PE PG AE AG ⊢
  go_enter Tryz.func49, Tryz.ntmps49
  go_wp2_with fail
  have HA1 := Lib.hid ((Blk.new w 32 #[Value.bool s, Value.int .u64 (h1 : Int), Value.int .u64 (l : Int), Value.int .i64 m]).alloc (.cells #[Value.int .i64 xp, Value.int .i64 xm, Value.bool xs, Value.int .u64 (xh : Int), Value.int .u64 (xl : Int), Value.int .i64 xo, Value.bool xa] 34))
  have HA2 := Lib.hid (Blk.alloc2 w (.cells #[Value.bool s, Value.int .u64 (h1 : Int), Value.int .u64 (l : Int), Value.int .i64 m] 32) 34 #[Value.int .i64 xp, Value.int .i64 xm, Value.bool xs, Value.int .u64 (xh : Int), Value.int .u64 (xl : Int), Value.int .i64 xo, Value.bool xa])
  have HF1 := Lib.hid (Fr.alloc (Fr.alloc (Fr.refl N0 w) (.cells #[Value.bool s, Value.int .u64 (h1 : Int), Value.int .u64 (l : Int), Value.int .i64 m] 32)) (.cells #[Value.int .i64 xp, Value.int .i64 xm, Value.bool xs, Value.int .u64 (xh : Int), Value.int .u64 (xl : Int), Value.int .i64 xo, Value.bool xa] 34))
  generalize World.alloc (w.alloc _) _ = w1 at *
  obtain ⟨g2, hg2⟩ : ∃ g2, g2 = w.heap.size + 1 := ⟨_, rfl⟩
  rw [← hg2] at HA2 ⊢
  have HG2 : Hid (w.heap.size ≤ g2) := Lib.hid (by omega)
  obtain ⟨g1, hg1⟩ : ∃ g1, g1 = w.heap.size := ⟨_, rfl⟩
  rw [← hg1] at HA1 ⊢
  have HG1 : Hid (w.heap.size ≤ g1) := Lib.hid (by omega)
  have HN1_2 : Hid (g1 ≠ g2) := Lib.hid (by omega)
  clear hg1 hg2
  have HZ1 : Hid (∀ W, Fr N0 w1 W → Blk W g1 32 #[Value.bool s, Value.int .u64 (h1 : Int), Value.int .u64 (l : Int), Value.int .i64 m]) := Lib.hid fun W hf => HA1.out.fr hf id
  have HZ2 : Hid (∀ W, Fr N0 w1 W → Blk W g2 34 #[Value.int .i64 xp, Value.int .i64 xm, Value.bool xs, Value.int .u64 (xh : Int), Value.int .u64 (xl : Int), Value.int .i64 xo, Value.bool xa]) := Lib.hid fun W hf => HA2.out.fr hf id
  have F := Lib.hid (Fr.refl N0 w1)
  go_loopw [7] (fun vi wr => ∃ j : Nat, j ≤ i ∧ vi = .int .i64 (j : Int) ∧ Fr N0 w1 wr) (fun vi _ => i + 1 - (intOf vi).toNat)
  case atStart => exact ⟨0, Nat.zero_le _, rfl, Fr.refl _ _⟩
  case round =>
    obtain ⟨j, hj, rfl, hF⟩ := hrel
    have F2 := Lib.hid hF
    have cr := (HB.out.fr (HF1.out.trans hF) id).c1'
    clear hF
    by_cases hjn : j < n
    · have hjI : (j : Int) < (n : Int) := by omega
      obtain ⟨u, hu⟩ : ∃ u, L[j]? = some u := ⟨_, List.getElem?_eq_getElem (by have := HN.out; omega)⟩
      obtain ⟨g, rfl⟩ := HO.out.some_ (by omega)
      obtain ⟨⟨y0, y1, y2, y3⟩, y4, y5, y6, y7, y8, y9, y10⟩ := (HO.out.fr (HF1.out.trans F2.out) fun _ _ => id).e11 HN.out hu
      have HU := Lib.hid hu
      obtain ⟨b, hb⟩ : ∃ b, b = wayT ⟨⟨s, h1, l⟩, m⟩ ⟨xp, xm, ⟨xs, xh, xl⟩, xo, xa⟩ u := ⟨_, rfl⟩
      have hb1 : b = false → j < i := fun e => by
        rcases Nat.lt_or_ge j i with k | k
        · exact k
        · obtain rfl : j = i := by omega
          rw [HAT.out u hu] at hb
          rw [hb] at e
          cases e
      have hb2 : b = true → j = i := fun e => by
        rcases Nat.lt_or_ge j i with k | k
        · rw [HBE.out j u k hu] at hb
          rw [hb] at e
          cases e
        · omega
      have hwt : b = (decide (u.1 = ⟨⟨s, h1, l⟩, m⟩) && (decide (xp = u.2.proto) && decide ((⟨xs, xh, xl⟩ : Ad) = u.2.via) && decide (xo = u.2.port) && decide (xa = u.2.away))) := hb
      have HWB := Lib.hid hwt
      have HB1 := Lib.hid hb1
      have HB2 := Lib.hid hb2
      have E := PE.out u.1
      have EG := PG.out u.1
      have E2 := AE.out u.2.via
      have EG2 := AG.out u.2.via
      clear hu hwt hb hb1 hb2
      obtain ⟨⟨⟨us, uh, ul⟩, um⟩, ⟨vp, vm, ⟨vs, vh, vl⟩, vo, va⟩⟩ := u
      simp only at E EG E2 EG2 HWB y0 y1 y2 y3 y4 y5 y6 y7 y8 y9 y10
      obtain ⟨d1, hd1⟩ : ∃ d, d = decide ((⟨⟨us, uh, ul⟩, um⟩ : Px) = ⟨⟨s, h1, l⟩, m⟩) := ⟨_, rfl⟩
      obtain ⟨d3, hd3⟩ : ∃ d, d = decide ((⟨xs, xh, xl⟩ : Ad) = ⟨vs, vh, vl⟩) := ⟨_, rfl⟩
      rw [← hd1] at E HWB
      rw [← hd3] at E2 HWB
      clear hd1 hd3
      have HZZ := Lib.hid (Blk.new wr 34 #[.int .i64 vp, .int .i64 vm, .bool vs, .int .u64 (vh : Int), .int .u64 (vl : Int), .int .i64 vo, .bool va])
      have hFA := (Fr.refl N0 wr).alloc (.cells #[.int .i64 vp, .int .i64 vm, .bool vs, .int .u64 (vh : Int), .int .u64 (vl : Int), .int .i64 vo, .bool va] 34)
      have F3 := Lib.hid (F2.out.trans hFA)
      clear hFA
      go_wp2_with fail
      generalize wr.alloc (.cells #[.int .i64 vp, .int .i64 vm, .bool vs, .int .u64 (vh : Int), .int .u64 (vl : Int), .int .i64 vo, .bool va] 34) = w2 at *
      generalize wr.heap.size = gz at *
      clear cr y0 y1 y2 y3 y4 y5 y6 y7 y8 y9 y10
      have cr := (HB.out.fr (HF1.out.trans F3.out) id).c1'
      obtain ⟨⟨y0, y1, y2, y3⟩, _⟩ := (HO.out.fr (HF1.out.trans F3.out) fun _ _ => id).e11 HN.out HU.out
      obtain ⟨x0, x1, x2, x3⟩ := (HZ1.out _ F3.out).c4
      obtain ⟨z0, z1, z2, z3, z4, z5, z6⟩ := (HZ2.out _ F3.out).c7
      obtain ⟨e0, e1, e2, e3, e4, e5, e6⟩ := HZZ.out.c7
      simp only at y0 y1 y2 y3
      have key : (d1 = false ∧ b = false) ∨ (d1 = true ∧ xp ≠ vp ∧ b = false) ∨ (d1 = true ∧ xp = vp ∧ d3 = false ∧ b = false) ∨ (d1 = true ∧ xp = vp ∧ d3 = true ∧ xo ≠ vo ∧ b = false) ∨ (d1 = true ∧ xp = vp ∧ d3 = true ∧ xo = vo ∧ xa ≠ va ∧ b = false) ∨ (d1 = true ∧ xp = vp ∧ d3 = true ∧ xo = vo ∧ xa = va ∧ b = true) := by
        have h := HWB.out
        subst h
        cases d1 <;> by_cases k1 : xp = vp <;> cases d3 <;> by_cases k2 : xo = vo <;> by_cases k3 : xa = va <;> simp [k1, k2, k3]
      clear HWB
      rcases key with ⟨rfl, rfl⟩ | ⟨rfl, hne, rfl⟩ | ⟨rfl, rfl, rfl, rfl⟩ | ⟨rfl, rfl, rfl, hne, rfl⟩ | ⟨rfl, rfl, rfl, rfl, hne, rfl⟩ | ⟨rfl, rfl, rfl, rfl, rfl, rfl⟩
      case inr.inr.inr.inr.inr =>
        obtain rfl := HB2.out rfl
        cases xa
        all_goals
          go_region
          go_wp2_with fail
          go_ret
          exact ⟨by rw [HR.out, if_pos hjn]; rfl, HF1.out.trans F3.out.drew⟩
      case inl =>
        have hji := HB1.out rfl
        go_region
        go_wp2_with fail
        go_roundw
        case rel => exact ⟨j + 1, by omega, by go_num, F3.out.drew⟩
        case measure => (simp [intOf]; try omega)
      case inr.inl =>
        have hji := HB1.out rfl
        have t1 : (xp == vp) = false := by rw [beq_eq_false_iff_ne]; exact hne
        go_region
        go_wp2_with fail
        go_roundw
        case rel => exact ⟨j + 1, by omega, by go_num, F3.out.drew⟩
        case measure => (simp [intOf]; try omega)
      case inr.inr.inl =>
        have hji := HB1.out rfl
        go_region
        go_wp2_with fail
        go_roundw
        case rel => exact ⟨j + 1, by omega, by go_num, F3.out.drew⟩
        case measure => (simp [intOf]; try omega)
      case inr.inr.inr.inl =>
        have hji := HB1.out rfl
        have t1 : (xo == vo) = false := by rw [beq_eq_false_iff_ne]; exact hne
        go_region
        go_wp2_with fail
        go_roundw
        case rel => exact ⟨j + 1, by omega, by go_num, F3.out.drew⟩
        case measure => (simp [intOf]; try omega)
      case inr.inr.inr.inr.inl =>
        have hji := HB1.out rfl
        have hne' : (xa = true ∧ va = false) ∨ (xa = false ∧ va = true) := by revert hne; cases xa <;> cases va <;> simp
        clear hne
        rcases hne' with ⟨rfl, rfl⟩ | ⟨rfl, rfl⟩
        all_goals
          go_region
          go_wp2_with fail
          go_roundw
          case rel => exact ⟨j + 1, by omega, by go_num, F3.out.drew⟩
          case measure => (simp [intOf]; try omega)
    · have hjI : ¬ (j : Int) < (n : Int) := by omega
      go_wp2_with fail
      go_ret
      exact ⟨by rw [HR.out, if_neg (by omega)]; rfl, HF1.out.trans F2.out⟩
end
end Go.Proofs.YtnklbeigikcfkaaGreatDoor
