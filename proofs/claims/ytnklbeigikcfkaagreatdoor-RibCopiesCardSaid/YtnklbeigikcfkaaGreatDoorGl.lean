/- The document's neighbour, Right. The document's Put. The document's rib: Put, all of it; Copy; a step. -/
import Derived.Test.YtnklbeigikcfkaaGreatDoorMy
import Derived.Test.YtnklbeigikcfkaaGreatDoorCe
import Derived.Test.YtnklbeigikcfkaaGreatDoorGi
import Derived.Test.YtnklbeigikcfkaaGreatDoorGk
import Derived.Test.YtnklbeigikcfkaaGreatDoorGg
import Derived.Deep.DeepCutAuto
import Derived.Deep.RegionLaw
namespace Go.Proofs.YtnklbeigikcfkaaGreatDoor
open Go.Proofs Go.RowKit
section
variable {w : World}
set_option maxHeartbeats 3200000 in
set_option maxRecDepth 100000 in
theorem rvia (p : Px) (a : Ad) (port : Int) (ha : a.ok) (hport : 0 ≤ port) : Calls Tryz.prog 69 #[pxV p, adV a, .int .i64 port] w fun e w' => e = .returned (.bool (viaP clsA p a port)) ∧ Fr N0 w w' := by
  have HS := Lib.hid (show viaP clsA p a port = (decide (a.six = p.ad.six) && (decide (clsA a = 5) || (decide (clsA a = 2) && decide (0 < port)))) from rfl)
  have kc := fun (W : World) => rcls_ (w := W) a ha
  generalize clsA a = k at *
  generalize viaP clsA p a port = r at *
  clear ha
  obtain ⟨⟨s, h, l⟩, m⟩ := p
  obtain ⟨s', h', l'⟩ := a
  unfold adV at kc
  simp only at *
  go_enter Tryz.func69, Tryz.ntmps69
  unfold pxV adV
  go_wp2_with fail
  have HA1 := Lib.hid ((Blk.new w 32 #[Value.bool s, Value.int .u64 (h : Int), Value.int .u64 (l : Int), Value.int .i64 m]).alloc (.cells #[Value.bool s', Value.int .u64 (h' : Int), Value.int .u64 (l' : Int)] 30))
  have HA2 := Lib.hid (Blk.alloc2 w (.cells #[Value.bool s, Value.int .u64 (h : Int), Value.int .u64 (l : Int), Value.int .i64 m] 32) 30 #[Value.bool s', Value.int .u64 (h' : Int), Value.int .u64 (l' : Int)])
  have HF1 := Lib.hid (Fr.alloc (Fr.alloc (Fr.refl N0 w) (.cells #[Value.bool s, Value.int .u64 (h : Int), Value.int .u64 (l : Int), Value.int .i64 m] 32)) (.cells #[Value.bool s', Value.int .u64 (h' : Int), Value.int .u64 (l' : Int)] 30))
  generalize World.alloc (w.alloc _) _ = w1 at *
  obtain ⟨g2, hg2⟩ : ∃ g2, g2 = w.heap.size + 1 := ⟨_, rfl⟩
  rw [← hg2] at HA2 ⊢
  have HG2 : Hid (w.heap.size ≤ g2) := Lib.hid (by omega)
  obtain ⟨g1, hg1⟩ : ∃ g1, g1 = w.heap.size := ⟨_, rfl⟩
  rw [← hg1] at HA1 ⊢
  have HG1 : Hid (w.heap.size ≤ g1) := Lib.hid (by omega)
  have HN1_2 : Hid (g1 ≠ g2) := Lib.hid (by omega)
  clear hg1 hg2
  have HZ1 : Hid (∀ W, Fr N0 w1 W → Blk W g1 32 #[Value.bool s, Value.int .u64 (h : Int), Value.int .u64 (l : Int), Value.int .i64 m]) := Lib.hid fun W hf => HA1.out.fr hf id
  have HZ2 : Hid (∀ W, Fr N0 w1 W → Blk W g2 30 #[Value.bool s', Value.int .u64 (h' : Int), Value.int .u64 (l' : Int)]) := Lib.hid fun W hf => HA2.out.fr hf id
  have F := Lib.hid (Fr.refl N0 w1)
  refine (kc _).mono ?_
  rintro e w2 ⟨rfl, hf⟩
  obtain ⟨x0, x1, x2, x3⟩ := (HZ1.out _ hf).c4
  obtain ⟨y0, y1, y2⟩ := (HZ2.out _ hf).c3
  have HF := Lib.hid (HF1.out.trans hf)
  clear hf
  have hc : (s' ≠ s) ∨ (s' = s ∧ k = 5) ∨ (s' = s ∧ k ≠ 5 ∧ k = 2) ∨ (s' = s ∧ k ≠ 5 ∧ k ≠ 2) := by
    by_cases e1 : s' = s <;> by_cases e2 : k = 5 <;> by_cases e3 : k = 2 <;> simp [e1, e2, e3]
  rcases hc with e | ⟨rfl, rfl⟩ | ⟨rfl, e1, rfl⟩ | ⟨rfl, e1, e2⟩
  · have t1 : (s' == s) = false := by rw [beq_eq_false_iff_ne]; exact e
    have HR := Lib.hid (show r = false by rw [HS.out, decide_eq_false e]; rfl)
    clear HS
    go_wp2_with fail
    go_ret
    exact ⟨retb HR.out.symm, HF.out⟩
  · have HR := Lib.hid (show r = true by rw [HS.out]; simp)
    clear HS
    go_wp2_with fail
    go_ret
    exact ⟨retb HR.out.symm, HF.out⟩
  · by_cases e0 : port = 0
    · subst e0
      have HR := Lib.hid (show r = false by rw [HS.out]; simp)
      clear HS
      have t1 : ((2 : Int) == 5) = false := rfl
      go_wp2_with fail
      go_ret
      exact ⟨retb HR.out.symm, HF.out⟩
    · have HR := Lib.hid (show r = true by rw [HS.out, decide_eq_true (show 0 < port by omega)]; simp)
      have t3 : (port != 0) = true := by rw [bne_iff_ne]; exact e0
      have t4 : (port == 0) = false := by rw [beq_eq_false_iff_ne]; exact e0
      clear HS
      go_wp2_with fail
      go_ret
      exact ⟨retb HR.out.symm, HF.out⟩
  · have t1 : (k == 5) = false := by rw [beq_eq_false_iff_ne]; exact e1
    have t2 : (k == 2) = false := by rw [beq_eq_false_iff_ne]; exact e2
    have HR := Lib.hid (show r = false by rw [HS.out, decide_eq_false e1, decide_eq_false e2]; simp)
    clear HS
    go_wp2_with fail
    go_ret
    exact ⟨retb HR.out.symm, HF.out⟩
set_option maxHeartbeats 6400000 in
set_option maxRecDepth 100000 in
theorem rri_ (p : Px) (x : Pa) (hp : p.ok) (hx : x.ok) : Calls Tryz.prog 51 #[pxV p, paV x] w fun e w' => e = .returned (.bool (mayA p x)) ∧ Fr N0 w w' := by
  have HS := Lib.hid (show mayA p x = (if validP p = false ∨ x.proto < 0 ∨ 4 < x.proto ∨ x.metric < 0 ∨ 65535 < x.metric then false
    else if x.away = true then decide (x.port = 0) && decide (x.via = ⟨false, 0, 0⟩)
    else if x.port = 0 then viaP clsA p x.via 0
    else decide (1 ≤ x.port) && decide (x.port ≤ 8) && (decide (x.via = ⟨false, 0, 0⟩) || viaP clsA p x.via x.port)) from rfl)
  have kv := fun (W : World) => rvalP (w := W) p hp
  have k0 := fun (W : World) => rvia (w := W) p x.via 0 hx.via (by omega)
  have kp := fun (W : World) (hpp : 0 ≤ x.port) => rvia (w := W) p x.via x.port hx.via hpp
  obtain ⟨d, hd⟩ : ∃ d, d = decide (x.via = ⟨false, 0, 0⟩) := ⟨_, rfl⟩
  have E : ∀ W, Sem.run Tryz.prog (binOp .eql 30 (adV x.via) (.agg #[.bool false, .int .u64 0, .int .u64 0])) W = .ok (.bool d) W := fun W => hd ▸ eql_ad x.via ⟨false, 0, 0⟩ W
  have EG : ∀ X Y W, Sem.run Tryz.prog (eqGuard .eql 30 X Y (adV x.via) (.agg #[.bool false, .int .u64 0, .int .u64 0])) W = .ok () W := fun X Y W => guard_ad .eql X Y x.via ⟨false, 0, 0⟩ W
  rw [← hd] at HS
  have hpo := hx.po
  clear hd hp hx
  generalize validP p = v at *
  generalize mayA p x = r at *
  generalize viaP clsA p x.via 0 = r0 at *
  generalize viaP clsA p x.via x.port = rp at *
  obtain ⟨⟨s, h, l⟩, m⟩ := p
  obtain ⟨q, z, ⟨s', h', l'⟩, o, a⟩ := x
  obtain ⟨hpo1, hpo2⟩ := hpo
  unfold pxV adV at *
  simp only at *
  have key : (v = false ∧ r = false) ∨ (v = true ∧ q < 0 ∧ r = false) ∨ (v = true ∧ ¬ q < 0 ∧ 4 < q ∧ r = false) ∨ (v = true ∧ ¬ q < 0 ∧ ¬ 4 < q ∧ z < 0 ∧ r = false) ∨ (v = true ∧ ¬ q < 0 ∧ ¬ 4 < q ∧ ¬ z < 0 ∧ 65535 < z ∧ r = false) ∨
      (v = true ∧ ¬ q < 0 ∧ ¬ 4 < q ∧ ¬ z < 0 ∧ ¬ 65535 < z ∧ ((a = true ∧ o = 0 ∧ r = d) ∨ (a = true ∧ o ≠ 0 ∧ r = false) ∨ (a = false ∧ o = 0 ∧ r = r0) ∨ (a = false ∧ o ≠ 0 ∧ o < 1 ∧ r = false) ∨ (a = false ∧ o ≠ 0 ∧ ¬ o < 1 ∧ 8 < o ∧ r = false) ∨
        (a = false ∧ o ≠ 0 ∧ ¬ o < 1 ∧ ¬ 8 < o ∧ d = true ∧ r = true) ∨ (a = false ∧ o ≠ 0 ∧ ¬ o < 1 ∧ ¬ 8 < o ∧ d = false ∧ r = rp))) := by
    have e := HS.out
    by_cases h1 : v = false
    · exact .inl ⟨h1, by rw [e, if_pos (.inl h1)]⟩
    have h1' : v = true := by simpa using h1
    by_cases h2 : q < 0
    · exact .inr (.inl ⟨h1', h2, by rw [e, if_pos (.inr (.inl h2))]⟩)
    by_cases h3 : 4 < q
    · exact .inr (.inr (.inl ⟨h1', h2, h3, by rw [e, if_pos (.inr (.inr (.inl (by omega))))]⟩))
    by_cases h4 : z < 0
    · exact .inr (.inr (.inr (.inl ⟨h1', h2, h3, h4, by rw [e, if_pos (.inr (.inr (.inr (.inl h4))))]⟩)))
    by_cases h5 : 65535 < z
    · exact .inr (.inr (.inr (.inr (.inl ⟨h1', h2, h3, h4, h5, by rw [e, if_pos (.inr (.inr (.inr (.inr h5))))]⟩))))
    rw [if_neg (by rintro (k | k | k | k | k); exact h1 k; exact h2 k; omega; exact h4 k; exact h5 k)] at e
    refine .inr (.inr (.inr (.inr (.inr ⟨h1', h2, h3, h4, h5, ?_⟩))))
    by_cases h6 : a = true
    · rw [if_pos h6] at e
      by_cases h7 : o = 0
      · exact .inl ⟨h6, h7, by rw [e, decide_eq_true h7]; rfl⟩
      · exact .inr (.inl ⟨h6, h7, by rw [e, decide_eq_false h7]; rfl⟩)
    · rw [if_neg h6] at e
      have h6' : a = false := by simpa using h6
      by_cases h7 : o = 0
      · rw [if_pos h7] at e
        exact .inr (.inr (.inl ⟨h6', h7, e⟩))
      · rw [if_neg h7] at e
        by_cases h8 : o < 1
        · exact .inr (.inr (.inr (.inl ⟨h6', h7, h8, by rw [e, decide_eq_false (by omega : ¬ 1 ≤ o)]; rfl⟩)))
        by_cases h9 : 8 < o
        · exact .inr (.inr (.inr (.inr (.inl ⟨h6', h7, h8, h9, by rw [e, decide_eq_false (by omega : ¬ o ≤ 8)]; simp⟩))))
        rw [decide_eq_true (by omega : 1 ≤ o), decide_eq_true (by omega : o ≤ 8)] at e
        cases d
        · exact .inr (.inr (.inr (.inr (.inr (.inr ⟨h6', h7, h8, h9, rfl, by simpa using e⟩)))))
        · exact .inr (.inr (.inr (.inr (.inr (.inl ⟨h6', h7, h8, h9, rfl, by simpa using e⟩)))))
  clear HS
  go_enter Tryz.func51, Tryz.ntmps51
  unfold paV
  go_wp2_with fail
  have HA1 := Lib.hid ((Blk.new w 32 #[Value.bool s, Value.int .u64 (h : Int), Value.int .u64 (l : Int), Value.int .i64 m]).alloc (.cells #[Value.int .i64 q, Value.int .i64 z, Value.bool s', Value.int .u64 (h' : Int), Value.int .u64 (l' : Int), Value.int .i64 o, Value.bool a] 34))
  have HA2 := Lib.hid (Blk.alloc2 w (.cells #[Value.bool s, Value.int .u64 (h : Int), Value.int .u64 (l : Int), Value.int .i64 m] 32) 34 #[Value.int .i64 q, Value.int .i64 z, Value.bool s', Value.int .u64 (h' : Int), Value.int .u64 (l' : Int), Value.int .i64 o, Value.bool a])
  have HF1 := Lib.hid (Fr.alloc (Fr.alloc (Fr.refl N0 w) (.cells #[Value.bool s, Value.int .u64 (h : Int), Value.int .u64 (l : Int), Value.int .i64 m] 32)) (.cells #[Value.int .i64 q, Value.int .i64 z, Value.bool s', Value.int .u64 (h' : Int), Value.int .u64 (l' : Int), Value.int .i64 o, Value.bool a] 34))
  generalize World.alloc (w.alloc _) _ = w1 at *
  obtain ⟨g2, hg2⟩ : ∃ g2, g2 = w.heap.size + 1 := ⟨_, rfl⟩
  rw [← hg2] at HA2 ⊢
  have HG2 : Hid (w.heap.size ≤ g2) := Lib.hid (by omega)
  obtain ⟨g1, hg1⟩ : ∃ g1, g1 = w.heap.size := ⟨_, rfl⟩
  rw [← hg1] at HA1 ⊢
  have HG1 : Hid (w.heap.size ≤ g1) := Lib.hid (by omega)
  have HN1_2 : Hid (g1 ≠ g2) := Lib.hid (by omega)
  clear hg1 hg2
  have HZ1 : Hid (∀ W, Fr N0 w1 W → Blk W g1 32 #[Value.bool s, Value.int .u64 (h : Int), Value.int .u64 (l : Int), Value.int .i64 m]) := Lib.hid fun W hf => HA1.out.fr hf id
  have HZ2 : Hid (∀ W, Fr N0 w1 W → Blk W g2 34 #[Value.int .i64 q, Value.int .i64 z, Value.bool s', Value.int .u64 (h' : Int), Value.int .u64 (l' : Int), Value.int .i64 o, Value.bool a]) := Lib.hid fun W hf => HA2.out.fr hf id
  have F := Lib.hid (Fr.refl N0 w1)
  refine (kv _).mono ?_
  rintro e w2 ⟨rfl, hf⟩
  obtain ⟨x0, x1, x2, x3⟩ := (HZ1.out _ hf).c4
  obtain ⟨y0, y1, y2, y3, y4, y5, y6⟩ := (HZ2.out _ hf).c7
  have HF := Lib.hid (HF1.out.trans hf)
  clear hf
  rcases key with ⟨rfl, hr⟩ | ⟨rfl, c1, hr⟩ | ⟨rfl, c1, c2, hr⟩ | ⟨rfl, c1, c2, c3, hr⟩ | ⟨rfl, c1, c2, c3, c4, hr⟩ | ⟨rfl, c1, c2, c3, c4, hk⟩
  iterate 5
    · have HR := Lib.hid hr
      clear hr
      go_wp2_with fail
      go_ret
      exact ⟨retb HR.out.symm, HF.out⟩
  rcases hk with ⟨rfl, rfl, hr⟩ | ⟨rfl, c5, hr⟩ | ⟨rfl, rfl, hr⟩ | ⟨rfl, c5, c6, hr⟩ | ⟨rfl, c5, c6, c7, hr⟩ | ⟨rfl, c5, c6, c7, rfl, hr⟩ | ⟨rfl, c5, c6, c7, rfl, hr⟩
  · have HR := Lib.hid hr
    clear hr
    go_wp2_with fail
    go_ret
    exact ⟨retb HR.out.symm, HF.out⟩
  · have HR := Lib.hid hr
    have t1 : (o == 0) = false := by rw [beq_eq_false_iff_ne]; exact c5
    clear hr
    go_wp2_with fail
    go_ret
    exact ⟨retb HR.out.symm, HF.out⟩
  · have HR := Lib.hid hr
    clear hr
    go_wp2_with fail
    refine (k0 _).mono ?_
    rintro e w3 ⟨rfl, hf⟩
    go_wp2_with fail
    go_ret
    exact ⟨retb HR.out.symm, HF.out.trans hf⟩
  · have HR := Lib.hid hr
    have t1 : (o == 0) = false := by rw [beq_eq_false_iff_ne]; exact c5
    have t2 : ¬ 1 ≤ o := by omega
    clear hr
    go_wp2_with fail
    go_ret
    exact ⟨retb HR.out.symm, HF.out⟩
  · have HR := Lib.hid hr
    have t1 : (o == 0) = false := by rw [beq_eq_false_iff_ne]; exact c5
    have t2 : 1 ≤ o := by omega
    have t3 : ¬ o ≤ 8 := by omega
    clear hr
    go_wp2_with fail
    go_ret
    exact ⟨retb HR.out.symm, HF.out⟩
  · have HR := Lib.hid hr
    have t1 : (o == 0) = false := by rw [beq_eq_false_iff_ne]; exact c5
    have t2 : 1 ≤ o := by omega
    have t3 : o ≤ 8 := by omega
    clear hr
    go_wp2_with fail
    go_ret
    exact ⟨retb HR.out.symm, HF.out⟩
  · have HR := Lib.hid hr
    have t1 : (o == 0) = false := by rw [beq_eq_false_iff_ne]; exact c5
    have t2 : 1 ≤ o := by omega
    have t3 : o ≤ 8 := by omega
    clear hr
    go_wp2_with fail
    refine (kp _ (by omega)).mono ?_
    rintro e w3 ⟨rfl, hf⟩
    go_wp2_with fail
    go_ret
    exact ⟨retb HR.out.symm, HF.out.trans hf⟩
end
end Go.Proofs.YtnklbeigikcfkaaGreatDoor
namespace Go.Proofs.YtnklbeigikcfkaaGreatDoor
open Go.Proofs Go.RowKit
theorem RowT.ok1 {L : List Td} (h : RowT clsA L) {u : Td} (hu : u ∈ L) : u.1.ok := (h.px (mem_prefsT.2 ⟨u.2, hu⟩)).1
theorem RfTo.trans {w w2 w3 : World} {q : Nat} {F F1 : Nat → Prop} {L : List Td} (h2 : ∀ i, F1 i → F i ∨ w.heap.size ≤ i) (h3 : Fr F w w2) (h : RfTo w2 q F1 L w3) : RfTo w q F L w3 := by
  obtain ⟨F', k1, k2, k3⟩ := h
  refine ⟨F', k1, fun i hi => ?_, h3.step k3 h2⟩
  rcases k2 i hi with k | k
  · exact h2 i k
  · exact .inr (Nat.le_trans h3.size k)
theorem ahead_def (u : Td) (p : Px) (x : Pa) : aheadT u (p, x) = (ltP u.1 p || (decide (u.1 = p) && betP u.2 x)) := rfl
/-- The row at which the new path is to be put. -/
def MidP (w w1 : World) (q : Nat) (F : Nat → Prop) (L : List Td) (wx : World) : Prop := ∃ F1, Rf wx q F1 L ∧ (∀ i, F1 i → F i ∨ w.heap.size ≤ i) ∧ Fr F w wx ∧ Fr F w1 wx
section
variable {w : World}
set_option maxHeartbeats 12800000 in
set_option maxRecDepth 100000 in
theorem rf_pbad (q : Nat) (Ft : Nat → Prop) (L : List Td) (p : Px) (x : Pa) (h : Rf w q Ft L) (hp : p.ok) (hx : x.ok) (hm : mayA p x = false) :
    Calls Tryz.prog 28 #[.pointer (some ⟨q, 0, none⟩), pxV p, paV x] w fun e w' => e = .returned (.int .i64 140) ∧ RfTo w q Ft L w' := by
  have KR := Lib.hid fun (W : World) => hm ▸ rri_ (w := W) p x hp hx
  have HH := Lib.hid h
  clear h hp hx hm
  obtain ⟨⟨s, h1, l⟩, m⟩ := p
  obtain ⟨xp, xm, ⟨xs, xh, xl⟩, xo, xa⟩ := x
  unfold pxV paV at KR ⊢
  simp only at KR ⊢
  go_enter Tryz.func28, Tryz.ntmps28
  go_wp2_with fail
  have HA1 := Lib.hid ((Blk.new w 32 #[Value.bool s, Value.int .u64 (h1 : Int), Value.int .u64 (l : Int), Value.int .i64 m]).alloc (.cells #[Value.int .i64 xp, Value.int .i64 xm, Value.bool xs, Value.int .u64 (xh : Int), Value.int .u64 (xl : Int), Value.int .i64 xo, Value.bool xa] 34))
  have HA2 := Lib.hid (Blk.alloc2 w (.cells #[Value.bool s, Value.int .u64 (h1 : Int), Value.int .u64 (l : Int), Value.int .i64 m] 32) 34 #[Value.int .i64 xp, Value.int .i64 xm, Value.bool xs, Value.int .u64 (xh : Int), Value.int .u64 (xl : Int), Value.int .i64 xo, Value.bool xa])
  have HF1 := Lib.hid (Fr.alloc (Fr.alloc (Fr.refl N0 w) (.cells #[Value.bool s, Value.int .u64 (h1 : Int), Value.int .u64 (l : Int), Value.int .i64 m] 32)) (.cells #[Value.int .i64 xp, Value.int .i64 xm, Value.bool xs, Value.int .u64 (xh : Int), Value.int .u64 (xl : Int), Value.int .i64 xo, Value.bool xa] 34))
  generalize World.alloc (w.alloc _) _ = w1 at *
  obtain ⟨g2, hg2⟩ : ∃ g2, g2 = w.heap.size + 1 := ⟨_, rfl⟩
  rw [← hg2] at HA2 ⊢
  have HG2 : Hid (w.heap.size ≤ g2) := Lib.hid (by omega)
  obtain ⟨g1, hg1⟩ : ∃ g1, g1 = w.heap.size := ⟨_, rfl⟩
  rw [← hg1] at HA1 ⊢
  have HG1 : Hid (w.heap.size ≤ g1) := Lib.hid (by omega)
  have HN1_2 : Hid (g1 ≠ g2) := Lib.hid (by omega)
  clear hg1 hg2
  have HZ1 : Hid (∀ W, Fr N0 w1 W → Blk W g1 32 #[Value.bool s, Value.int .u64 (h1 : Int), Value.int .u64 (l : Int), Value.int .i64 m]) := Lib.hid fun W hf => HA1.out.fr hf id
  have HZ2 : Hid (∀ W, Fr N0 w1 W → Blk W g2 34 #[Value.int .i64 xp, Value.int .i64 xm, Value.bool xs, Value.int .u64 (xh : Int), Value.int .u64 (xl : Int), Value.int .i64 xo, Value.bool xa]) := Lib.hid fun W hf => HA2.out.fr hf id
  have F := Lib.hid (Fr.refl N0 w1)
  obtain ⟨z1_0, z1_1, z1_2, z1_3⟩ := (HZ1.out _ F.out).c4
  obtain ⟨z2_0, z2_1, z2_2, z2_3, z2_4, z2_5, z2_6⟩ := (HZ2.out _ F.out).c7
  refine (KR.out _).mono ?_
  rintro e w2 ⟨rfl, hf⟩
  have F2 := Lib.hid (HF1.out.trans hf)
  clear hf z1_0 z1_1 z1_2 z1_3 z2_0 z2_1 z2_2 z2_3 z2_4 z2_5 z2_6
  go_wp2_with fail
  go_ret
  exact ⟨rfl, HH.out.to F2.out⟩
set_option maxHeartbeats 12800000 in
set_option maxRecDepth 100000 in
theorem rf_pfull (q : Nat) (Ft : Nat → Prop) (L : List Td) (p : Px) (x : Pa) (h : Rf w q Ft L) (hp : p.ok) (hx : x.ok) (hm : mayA p x = true) (hw : L.any (wayT p x) = false) (hfull : 4 ≤ (pathsT L p).length ∨ (pathsT L p = [] ∧ 90 ≤ (prefsT L).length)) :
    Calls Tryz.prog 28 #[.pointer (some ⟨q, 0, none⟩), pxV p, paV x] w fun e w' => e = .returned (.int .i64 141) ∧ RfTo w q Ft L w' := by
  have KR := Lib.hid fun (W : World) => hm ▸ rri_ (w := W) p x hp hx
  obtain ⟨i, hi, hbef, hat⟩ := wayT_find p x L
  have hni : ¬ i < L.length := fun hlt => by have := (way_erase h.row hlt hat).2; rw [hw] at this; cases this
  have KW := Lib.hid fun (W : World) (hW : Fr N0 w W) => rf_way (w := W) q Ft L p x (h.n0 hW) i hi hbef hat (-1) (if_neg hni).symm
  have KP := Lib.hid fun (W : World) (hW : Fr N0 w W) => rf_paths (w := W) q Ft L p (h.n0 hW)
  have KX := Lib.hid fun (W : World) (hW : Fr N0 w W) => rf_prefs (w := W) q Ft L (h.n0 hW)
  have HH := Lib.hid h
  have hl1 := pathsT_len L p
  have hl2 := prefsT_le L
  have hl3 := len_le h.row
  have hfull' : 4 ≤ (pathsT L p).length ∨ ((pathsT L p).length = 0 ∧ 90 ≤ (prefsT L).length) := hfull.imp_right fun k => ⟨by rw [k.1]; rfl, k.2⟩
  clear h hp hx hm hw hfull hi hbef hat hni
  unfold NewPs at KP
  unfold NewXs at KX
  generalize pathsT L p = P at *
  generalize prefsT L = X at *
  obtain ⟨a, ha⟩ : ∃ a, a = P.length := ⟨_, rfl⟩
  obtain ⟨b, hb⟩ : ∃ b, b = X.length := ⟨_, rfl⟩
  rw [← ha] at KP hfull' hl1
  rw [← hb] at KX hfull' hl2
  clear ha hb
  obtain ⟨⟨s, h1, l⟩, m⟩ := p
  obtain ⟨xp, xm, ⟨xs, xh, xl⟩, xo, xa⟩ := x
  unfold pxV paV at KR KW ⊢
  unfold pxV at KP
  simp only at KR KW KP ⊢
  go_enter Tryz.func28, Tryz.ntmps28
  go_wp2_with fail
  have HA1 := Lib.hid ((Blk.new w 32 #[Value.bool s, Value.int .u64 (h1 : Int), Value.int .u64 (l : Int), Value.int .i64 m]).alloc (.cells #[Value.int .i64 xp, Value.int .i64 xm, Value.bool xs, Value.int .u64 (xh : Int), Value.int .u64 (xl : Int), Value.int .i64 xo, Value.bool xa] 34))
  have HA2 := Lib.hid (Blk.alloc2 w (.cells #[Value.bool s, Value.int .u64 (h1 : Int), Value.int .u64 (l : Int), Value.int .i64 m] 32) 34 #[Value.int .i64 xp, Value.int .i64 xm, Value.bool xs, Value.int .u64 (xh : Int), Value.int .u64 (xl : Int), Value.int .i64 xo, Value.bool xa])
  have HF1 := Lib.hid (Fr.alloc (Fr.alloc (Fr.refl N0 w) (.cells #[Value.bool s, Value.int .u64 (h1 : Int), Value.int .u64 (l : Int), Value.int .i64 m] 32)) (.cells #[Value.int .i64 xp, Value.int .i64 xm, Value.bool xs, Value.int .u64 (xh : Int), Value.int .u64 (xl : Int), Value.int .i64 xo, Value.bool xa] 34))
  generalize World.alloc (w.alloc _) _ = w1 at *
  obtain ⟨g2, hg2⟩ : ∃ g2, g2 = w.heap.size + 1 := ⟨_, rfl⟩
  rw [← hg2] at HA2 ⊢
  have HG2 : Hid (w.heap.size ≤ g2) := Lib.hid (by omega)
  obtain ⟨g1, hg1⟩ : ∃ g1, g1 = w.heap.size := ⟨_, rfl⟩
  rw [← hg1] at HA1 ⊢
  have HG1 : Hid (w.heap.size ≤ g1) := Lib.hid (by omega)
  have HN1_2 : Hid (g1 ≠ g2) := Lib.hid (by omega)
  clear hg1 hg2
  have HZ1 : Hid (∀ W, Fr N0 w1 W → Blk W g1 32 #[Value.bool s, Value.int .u64 (h1 : Int), Value.int .u64 (l : Int), Value.int .i64 m]) := Lib.hid fun W hf => HA1.out.fr hf id
  have HZ2 : Hid (∀ W, Fr N0 w1 W → Blk W g2 34 #[Value.int .i64 xp, Value.int .i64 xm, Value.bool xs, Value.int .u64 (xh : Int), Value.int .u64 (xl : Int), Value.int .i64 xo, Value.bool xa]) := Lib.hid fun W hf => HA2.out.fr hf id
  have F := Lib.hid (Fr.refl N0 w1)
  obtain ⟨z1_0, z1_1, z1_2, z1_3⟩ := (HZ1.out _ F.out).c4
  obtain ⟨z2_0, z2_1, z2_2, z2_3, z2_4, z2_5, z2_6⟩ := (HZ2.out _ F.out).c7
  refine (KR.out _).mono ?_
  rintro e w2 ⟨rfl, hf⟩
  have F := Lib.hid (F.out.trans hf); obtain ⟨z1_0, z1_1, z1_2, z1_3⟩ := (HZ1.out _ F.out).c4; obtain ⟨z2_0, z2_1, z2_2, z2_3, z2_4, z2_5, z2_6⟩ := (HZ2.out _ F.out).c7
  go_wp2_with fail
  refine (KW.out _ (HF1.out.trans F.out)).mono ?_
  rintro e w3 ⟨rfl, hf⟩
  have F := Lib.hid (F.out.trans hf); obtain ⟨z1_0, z1_1, z1_2, z1_3⟩ := (HZ1.out _ F.out).c4; obtain ⟨z2_0, z2_1, z2_2, z2_3, z2_4, z2_5, z2_6⟩ := (HZ2.out _ F.out).c7
  go_wp2_with fail
  refine (KP.out _ (HF1.out.trans F.out)).mono ?_
  rintro e w4 ⟨v, rfl, A, c, rfl, _, hf, _⟩
  have F := Lib.hid (F.out.trans hf); obtain ⟨z1_0, z1_1, z1_2, z1_3⟩ := (HZ1.out _ F.out).c4; obtain ⟨z2_0, z2_1, z2_2, z2_3, z2_4, z2_5, z2_6⟩ := (HZ2.out _ F.out).c7
  rcases hfull' with h4 | ⟨rfl, h90⟩
  · have h4I : (4 : Int) ≤ (a : Int) := by omega
    clear z1_0 z1_1 z1_2 z1_3 z2_0 z2_1 z2_2 z2_3 z2_4 z2_5 z2_6
    go_wp2_with fail
    go_ret
    exact ⟨rfl, HH.out.to (HF1.out.trans F.out)⟩
  · have h90I : (90 : Int) ≤ (b : Int) := by omega
    go_wp2_with fail
    refine (KX.out _ (HF1.out.trans F.out)).mono ?_
    rintro e w5 ⟨v, rfl, A5, c5, rfl, _, hf, _⟩
    have F := Lib.hid (F.out.trans hf); obtain ⟨z1_0, z1_1, z1_2, z1_3⟩ := (HZ1.out _ F.out).c4; obtain ⟨z2_0, z2_1, z2_2, z2_3, z2_4, z2_5, z2_6⟩ := (HZ2.out _ F.out).c7
    clear z1_0 z1_1 z1_2 z1_3 z2_0 z2_1 z2_2 z2_3 z2_4 z2_5 z2_6
    go_wp2_with fail
    go_ret
    exact ⟨rfl, HH.out.to (HF1.out.trans F.out)⟩
set_option maxHeartbeats 25600000 in
set_option maxRecDepth 100000 in
theorem rf_pnew (q : Nat) (Ft : Nat → Prop) (L L1 : List Td) (p : Px) (x : Pa) (h : Rf w q Ft L) (hp : p.ok) (hx : x.ok) (hm : mayA p x = true) (hi1 : RowT clsA (insT (p, x) L1))
    (hc : (L.any (wayT p x) = true ∧ L1 = noW p x L ∧ RowT clsA L1) ∨ (L.any (wayT p x) = false ∧ L1 = L ∧ ¬ (4 ≤ (pathsT L p).length ∨ (pathsT L p = [] ∧ 90 ≤ (prefsT L).length)))) :
    Calls Tryz.prog 28 #[.pointer (some ⟨q, 0, none⟩), pxV p, paV x] w fun e w' => e = .returned (.int .i64 0) ∧ RfTo w q Ft (insT (p, x) L1) w' := by
  have KR := Lib.hid fun (W : World) => hm ▸ rri_ (w := W) p x hp hx
  obtain ⟨i, hi, hbef, hat⟩ := wayT_find p x L
  obtain ⟨r, hr⟩ : ∃ r : Int, r = if i < L.length then (i : Int) else -1 := ⟨_, rfl⟩
  have KW := Lib.hid fun (W : World) (hW : Fr N0 w W) => rf_way (w := W) q Ft L p x (h.n0 hW) i hi hbef hat r hr
  have KP := Lib.hid fun (W : World) (hW : Fr N0 w W) => rf_paths (w := W) q Ft L p (h.n0 hW)
  have KX := Lib.hid fun (W : World) (hW : Fr N0 w W) => rf_prefs (w := W) q Ft L (h.n0 hW)
  have hcase : (r = (i : Int) ∧ ∀ W, Fr N0 w W → Calls Tryz.prog 50 #[.pointer (some ⟨q, 0, none⟩), .int .i64 (i : Int)] W fun e w' => e = .returned (.tuple #[]) ∧ RfTo W q Ft L1 w') ∨
      (r = -1 ∧ L1 = L ∧ (pathsT L p).length < 4 ∧ ((pathsT L p).length ≠ 0 ∨ (prefsT L).length < 90)) := by
    by_cases hlt : i < L.length
    · obtain ⟨k1, k2⟩ := way_erase h.row hlt hat
      rcases hc with ⟨_, rfl, hr1⟩ | ⟨k3, _⟩
      · rw [k1] at hr1 ⊢
        exact .inl ⟨by rw [hr, if_pos hlt], fun W hW => rf_wo (w := W) q Ft L i (h.n0 hW) hlt hr1⟩
      · rw [k2] at k3
        cases k3
    · have k2 := way_none hlt hbef
      rcases hc with ⟨k3, _⟩ | ⟨_, k4, k5⟩
      · rw [k2] at k3
        cases k3
      · refine .inr ⟨by rw [hr, if_neg hlt], k4, by omega, ?_⟩
        by_cases k6 : (pathsT L p).length = 0
        · refine .inr ?_
          have := List.length_eq_zero_iff.1 k6
          have : ¬ 90 ≤ (prefsT L).length := fun k => k5 (.inr ⟨this, k⟩)
          omega
        · exact .inl k6
  have HC := Lib.hid hcase
  have HH := Lib.hid h
  have hl1 := pathsT_len L p
  have hl2 := prefsT_le L
  have hl3 := len_le h.row
  have HI1 := Lib.hid hi1
  have KL := Lib.hid fun (W : World) (u : Td) (hu : u.1.ok) (b : Bool) (hb : b = ltP u.1 p) => hb ▸ rles (w := W) u.1 p hu hp
  have KB := Lib.hid fun (W : World) (u : Td) (b : Bool) (hb : b = betP u.2 x) => hb ▸ rbet_ (w := W) u.2 x
  have EE := Lib.hid (fun (u : Px) (d : Bool) (hd : d = decide (u = p)) W => hd ▸ eql_px u p W)
  have EG := Lib.hid (fun (u : Px) X Y W => guard_px .eql X Y u p W)
  obtain ⟨k, hk, hsplit, hlt, hge⟩ := insT_split (p, x) L1
  have AH := Lib.hid fun (u : Td) => ahead_def u p x
  obtain ⟨N, hN⟩ : ∃ N, N = insT (p, x) L1 := ⟨_, rfl⟩
  rw [← hN] at HI1 hsplit ⊢
  have HSP := Lib.hid hsplit
  have HLT := Lib.hid hlt
  have HGE := Lib.hid hge
  clear h hp hx hm hi1 hc hcase hi hbef hat hr hN hsplit hlt hge
  unfold NewPs at KP
  unfold NewXs at KX
  generalize pathsT L p = P at *
  generalize prefsT L = X at *
  obtain ⟨a, ha⟩ : ∃ a, a = P.length := ⟨_, rfl⟩
  obtain ⟨b, hb⟩ : ∃ b, b = X.length := ⟨_, rfl⟩
  rw [← ha] at KP HC hl1
  rw [← hb] at KX HC hl2
  clear ha hb
  obtain ⟨T, hT⟩ : ∃ T : Td, T = (p, x) := ⟨_, rfl⟩
  rw [← hT] at HSP HLT HGE AH
  have HT := Lib.hid hT
  have HTC := Lib.hid (show Cells.cs T = Px.cs p ++ Pa.cs x by rw [hT]; rfl)
  obtain ⟨pp, hpp⟩ : ∃ pp : Px, pp = p := ⟨_, rfl⟩
  obtain ⟨xx, hxx⟩ : ∃ xx : Pa, xx = x := ⟨_, rfl⟩
  rw [← hpp, ← hxx] at AH
  have HPP := Lib.hid hpp
  have HXX := Lib.hid hxx
  clear hT hpp hxx
  obtain ⟨⟨s, h1, l⟩, m⟩ := p
  obtain ⟨xp, xm, ⟨xs, xh, xl⟩, xo, xa⟩ := x
  unfold pxV paV at KR KW ⊢
  unfold pxV at KP KL EE EG
  unfold paV at KB
  simp only at KR KW KP KL KB EE EG ⊢
  go_enter Tryz.func28, Tryz.ntmps28
  go_wp2_with fail
  have HA1 := Lib.hid ((Blk.new w 32 #[Value.bool s, Value.int .u64 (h1 : Int), Value.int .u64 (l : Int), Value.int .i64 m]).alloc (.cells #[Value.int .i64 xp, Value.int .i64 xm, Value.bool xs, Value.int .u64 (xh : Int), Value.int .u64 (xl : Int), Value.int .i64 xo, Value.bool xa] 34))
  have HA2 := Lib.hid (Blk.alloc2 w (.cells #[Value.bool s, Value.int .u64 (h1 : Int), Value.int .u64 (l : Int), Value.int .i64 m] 32) 34 #[Value.int .i64 xp, Value.int .i64 xm, Value.bool xs, Value.int .u64 (xh : Int), Value.int .u64 (xl : Int), Value.int .i64 xo, Value.bool xa])
  have HF1 := Lib.hid (Fr.alloc (Fr.alloc (Fr.refl N0 w) (.cells #[Value.bool s, Value.int .u64 (h1 : Int), Value.int .u64 (l : Int), Value.int .i64 m] 32)) (.cells #[Value.int .i64 xp, Value.int .i64 xm, Value.bool xs, Value.int .u64 (xh : Int), Value.int .u64 (xl : Int), Value.int .i64 xo, Value.bool xa] 34))
  generalize World.alloc (w.alloc _) _ = w1 at *
  obtain ⟨g2, hg2⟩ : ∃ g2, g2 = w.heap.size + 1 := ⟨_, rfl⟩
  rw [← hg2] at HA2 ⊢
  have HG2 : Hid (w.heap.size ≤ g2) := Lib.hid (by omega)
  obtain ⟨g1, hg1⟩ : ∃ g1, g1 = w.heap.size := ⟨_, rfl⟩
  rw [← hg1] at HA1 ⊢
  have HG1 : Hid (w.heap.size ≤ g1) := Lib.hid (by omega)
  have HN1_2 : Hid (g1 ≠ g2) := Lib.hid (by omega)
  clear hg1 hg2
  have HZ1 : Hid (∀ W, Fr N0 w1 W → Blk W g1 32 #[Value.bool s, Value.int .u64 (h1 : Int), Value.int .u64 (l : Int), Value.int .i64 m]) := Lib.hid fun W hf => HA1.out.fr hf id
  have HZ2 : Hid (∀ W, Fr N0 w1 W → Blk W g2 34 #[Value.int .i64 xp, Value.int .i64 xm, Value.bool xs, Value.int .u64 (xh : Int), Value.int .u64 (xl : Int), Value.int .i64 xo, Value.bool xa]) := Lib.hid fun W hf => HA2.out.fr hf id
  have F := Lib.hid (Fr.refl N0 w1)
  obtain ⟨z1_0, z1_1, z1_2, z1_3⟩ := (HZ1.out _ F.out).c4
  obtain ⟨z2_0, z2_1, z2_2, z2_3, z2_4, z2_5, z2_6⟩ := (HZ2.out _ F.out).c7
  refine (KR.out _).mono ?_
  rintro e w2 ⟨rfl, hf⟩
  have F := Lib.hid (F.out.trans hf); obtain ⟨z1_0, z1_1, z1_2, z1_3⟩ := (HZ1.out _ F.out).c4; obtain ⟨z2_0, z2_1, z2_2, z2_3, z2_4, z2_5, z2_6⟩ := (HZ2.out _ F.out).c7
  go_wp2_with fail
  refine (KW.out _ (HF1.out.trans F.out)).mono ?_
  rintro e w3 ⟨rfl, hf⟩
  have F := Lib.hid (F.out.trans hf); obtain ⟨z1_0, z1_1, z1_2, z1_3⟩ := (HZ1.out _ F.out).c4; obtain ⟨z2_0, z2_1, z2_2, z2_3, z2_4, z2_5, z2_6⟩ := (HZ2.out _ F.out).c7
  go_upto_if 22 with fail
  go_cut [9] (fun _ wx => MidP w w1 q Ft L1 wx)
  case first =>
    have hcase := HC.out
    clear HC
    rcases hcase with ⟨rfl, kd⟩ | ⟨rfl, rfl, ha4, hab⟩
    · have hnn : 0 ≤ (i : Int) := by omega
      have KD := Lib.hid kd
      clear kd
      go_wp2_with fail
      refine (KD.out _ (HF1.out.trans F.out)).mono ?_
      rintro e w4 ⟨rfl, F', hR, hs, hf4⟩
      have hM := Lib.hid (show MidP w w1 q Ft L1 w4 from ⟨F', hR, fun i hi => (hs i hi).imp_right fun k => Nat.le_trans (HF1.out.trans F.out).size k, ((HF1.out.trans F.out).mono fun _ _ h => h.elim).trans hf4, (F.out.mono fun _ _ h => h.elim).trans hf4⟩)
      clear hR hs hf4 z1_0 z1_1 z1_2 z1_3 z2_0 z2_1 z2_2 z2_3 z2_4 z2_5 z2_6
      go_wp2_with fail
      go_meet
      exact hM.out
    · go_wp2_with fail
      refine (KP.out _ (HF1.out.trans F.out)).mono ?_
      rintro e w4 ⟨v, rfl, A, c, rfl, _, hf, _⟩
      have F := Lib.hid (F.out.trans hf); obtain ⟨z1_0, z1_1, z1_2, z1_3⟩ := (HZ1.out _ F.out).c4; obtain ⟨z2_0, z2_1, z2_2, z2_3, z2_4, z2_5, z2_6⟩ := (HZ2.out _ F.out).c7
      have ha4I : ¬ (4 : Int) ≤ (a : Int) := by omega
      by_cases ha0 : a = 0
      · subst ha0
        have hb90I : ¬ (90 : Int) ≤ (b : Int) := by omega
        go_wp2_with fail
        refine (KX.out _ (HF1.out.trans F.out)).mono ?_
        rintro e w5 ⟨v, rfl, A5, c5, rfl, _, hf, _⟩
        have F := Lib.hid (F.out.trans hf); obtain ⟨z1_0, z1_1, z1_2, z1_3⟩ := (HZ1.out _ F.out).c4; obtain ⟨z2_0, z2_1, z2_2, z2_3, z2_4, z2_5, z2_6⟩ := (HZ2.out _ F.out).c7
        have hM := Lib.hid (show MidP w w1 q Ft L1 w5 from ⟨Ft, HH.out.n0 (HF1.out.trans F.out), fun _ => .inl, (HF1.out.trans F.out).mono fun _ _ h => h.elim, F.out.mono fun _ _ h => h.elim⟩)
        clear z1_0 z1_1 z1_2 z1_3 z2_0 z2_1 z2_2 z2_3 z2_4 z2_5 z2_6
        go_wp2_with fail
        go_meet
        exact hM.out
      · have t1 : ((a : Int) == 0) = false := by rw [beq_eq_false_iff_ne]; omega
        have hM := Lib.hid (show MidP w w1 q Ft L1 w4 from ⟨Ft, HH.out.n0 (HF1.out.trans F.out), fun _ => .inl, (HF1.out.trans F.out).mono fun _ _ h => h.elim, F.out.mono fun _ _ h => h.elim⟩)
        clear z1_0 z1_1 z1_2 z1_3 z2_0 z2_1 z2_2 z2_3 z2_4 z2_5 z2_6
        go_wp2_with fail
        go_meet
        exact hM.out
  case rest =>
    obtain ⟨F1, hR1, hs1, hw1, hz1⟩ := hcut
    rename World => wb
    have HRb := Lib.hid hR1
    have HS1 := Lib.hid hs1
    have HWB := Lib.hid hw1
    have hfw := fun i (hi : Ft i) => HH.out.lt i hi
    have HP := Lib.hid (HA1.out.fr hz1 fun hi => by have := hfw _ hi; have := HG1.out; omega)
    have HX := Lib.hid (HA2.out.fr hz1 fun hi => by have := hfw _ hi; have := HG2.out; omega)
    obtain ⟨A, c, hB, hO, _⟩ := hR1.mem
    have hle := len_le hR1.row
    obtain ⟨n, hn⟩ : ∃ n, n = L1.length := ⟨_, rfl⟩
    rw [← hn] at hB hO hle hk
    have HN := Lib.hid hn.symm
    have HB := Lib.hid hB
    have HO := Lib.hid hO
    have hqw := hB.lt
    have hle2 := hO.len_le
    clear hR1 hs1 hw1 hfw hz1 hB hO hn z1_0 z1_1 z1_2 z1_3 z2_0 z2_1 z2_2 z2_3 z2_4 z2_5 z2_6 KR KW KP KX HC HZ1 HZ2 F HF1 hl1 hl2 hl3 HH HA1 HA2 HG1 HG2 HN1_2
    go_upto_block 0 with fail
    go_cut [10] (fun v wx => v = .int .i64 (k : Int) ∧ Fr N0 wb wx)
    case first =>
     go_wp2_with fail
     go_loopw [10] (fun vi wr => ∃ j : Nat, j ≤ k ∧ vi = .int .i64 (j : Int) ∧ Fr N0 wb wr) (fun vi _ => n + 1 - (intOf vi).toNat)
     case atStart => exact ⟨0, Nat.zero_le _, rfl, Fr.refl _ _⟩
     case round =>
      obtain ⟨j, hj, rfl, hF⟩ := hrel
      have F2 := Lib.hid hF
      have cr := fun x : Fam wr => (HB.out.fr (hF.trans x.fr) id).c1'
      have pp4 := fun x : Fam wr => (HP.out.fr (hF.trans x.fr) id).c4
      have xx7 := fun x : Fam wr => (HX.out.fr (hF.trans x.fr) id).c7
      have x0 := fun x => (pp4 x).1
      have x1 := fun x => (pp4 x).2.1
      have x2 := fun x => (pp4 x).2.2.1
      have x3 := fun x => (pp4 x).2.2.2
      have z0 := fun x => (xx7 x).1
      have z1 := fun x => (xx7 x).2.1
      have z2 := fun x => (xx7 x).2.2.1
      have z3 := fun x => (xx7 x).2.2.2.1
      have z4 := fun x => (xx7 x).2.2.2.2.1
      have z5 := fun x => (xx7 x).2.2.2.2.2.1
      have z6 := fun x => (xx7 x).2.2.2.2.2.2
      clear pp4 xx7 hF
      -- what the test says
      have key : (j < k ∧ ∃ u, L1[j]? = some u ∧ (ltP u.1 pp = true ∨ (ltP u.1 pp = false ∧ u.1 = pp ∧ betP u.2 xx = true))) ∨ (j = k ∧ (j = n ∨ (j < n ∧ ∃ u, L1[j]? = some u ∧ ((ltP u.1 pp = false ∧ ¬ u.1 = pp) ∨ (ltP u.1 pp = false ∧ u.1 = pp ∧ betP u.2 xx = false))))) := by
        by_cases hjk : j < k
        · obtain ⟨u, hu⟩ : ∃ u, L1[j]? = some u := ⟨_, List.getElem?_eq_getElem (by have := HN.out; omega)⟩
          have h := HLT.out j u hjk hu
          rw [AH.out u] at h
          refine .inl ⟨hjk, u, hu, ?_⟩
          cases e1 : ltP u.1 pp with
          | true => exact .inl rfl
          | false =>
            rw [e1] at h
            simp only [Bool.false_or, Bool.and_eq_true, decide_eq_true_eq] at h
            exact .inr ⟨rfl, h⟩
        · obtain rfl : j = k := by omega
          refine .inr ⟨rfl, ?_⟩
          by_cases hjn : j = n
          · exact .inl hjn
          · obtain ⟨u, hu⟩ : ∃ u, L1[j]? = some u := ⟨_, List.getElem?_eq_getElem (by have := HN.out; omega)⟩
            have h := HGE.out u hu
            rw [AH.out u] at h
            refine .inr ⟨by omega, u, hu, ?_⟩
            simp only [Bool.or_eq_false_iff, Bool.and_eq_false_iff, decide_eq_false_iff_not] at h
            by_cases e2 : u.1 = pp
            · exact .inr ⟨h.1, e2, h.2.resolve_left fun k => k e2⟩
            · exact .inl ⟨h.1, e2⟩
      rcases key with ⟨hjk, u, hu, hb⟩ | ⟨rfl, hjn | ⟨hjn, u, hu, hb⟩⟩
      · rcases hb with e1 | ⟨e1, e2, e3⟩
        · obtain ⟨g, rfl⟩ := HO.out.some_ (by omega)
          have uu := fun x : Fam wr => (HO.out.fr (F2.out.trans x.fr) fun _ _ => id).e11 HN.out hu
          have hjI : (j : Int) < (n : Int) := by omega
          have huok : u.1.ok := (HRb.out.row.ok1 (List.mem_of_getElem? hu))
          have kl := fun (x : Fam wr) => KL.out x.w u huok true (by rw [← HPP.out]; exact e1.symm)
          have kb := fun (x : Fam wr) => KB.out x.w u (betP u.2 xx) (by rw [HXX.out])
          have E := EE.out u.1 (decide (u.1 = pp)) (by rw [HPP.out])
          have G := EG.out u.1
          clear hu huok e1
          obtain ⟨⟨⟨us, uh, ul⟩, um⟩, ⟨vp, vm, ⟨vs, vh, vl⟩, vo, va⟩⟩ := u
          simp only at kl kb E G uu
          have y0 := fun x => (uu x).1.1
          have y1 := fun x => (uu x).1.2.1
          have y2 := fun x => (uu x).1.2.2.1
          have y3 := fun x => (uu x).1.2.2.2
          have y4 := fun x => (uu x).2.1
          have y5 := fun x => (uu x).2.2.1
          have y6 := fun x => (uu x).2.2.2.1
          have y7 := fun x => (uu x).2.2.2.2.1
          have y8 := fun x => (uu x).2.2.2.2.2.1
          have y9 := fun x => (uu x).2.2.2.2.2.2.1
          have y10 := fun x => (uu x).2.2.2.2.2.2.2
          clear uu
          go_wp2_with fail
          refine wp_region_fam (by kernel_rfl) (by kernel_rfl) ?_
          repeat (go_big_quiet_step ((first
            | (go_at_call 52; exact fam_call (kl _))
            | (go_at_call 53; exact fam_call (kb _)))))
          first | refine wpQuiet_nil ?_ | (go_big_quiet_want; go_big_quiet_op; done)
          rintro _ ⟨xq, rfl⟩
          have F3 := Lib.hid (F2.out.trans xq.fr)
          go_wp2_with fail
          go_roundw
          case rel => exact ⟨j + 1, by omega, by go_num, F3.out⟩
          case measure => (simp [intOf]; try omega)
        · obtain ⟨g, rfl⟩ := HO.out.some_ (by omega)
          have uu := fun x : Fam wr => (HO.out.fr (F2.out.trans x.fr) fun _ _ => id).e11 HN.out hu
          have hjI : (j : Int) < (n : Int) := by omega
          have huok : u.1.ok := (HRb.out.row.ok1 (List.mem_of_getElem? hu))
          have kl := fun (x : Fam wr) => KL.out x.w u huok false (by rw [← HPP.out]; exact e1.symm)
          have kb := fun (x : Fam wr) => KB.out x.w u true (by rw [← HXX.out]; exact e3.symm)
          have E := EE.out u.1 true (by rw [← HPP.out]; exact (decide_eq_true e2).symm)
          have G := EG.out u.1
          clear hu huok e1 e2 e3
          obtain ⟨⟨⟨us, uh, ul⟩, um⟩, ⟨vp, vm, ⟨vs, vh, vl⟩, vo, va⟩⟩ := u
          simp only at kl kb E G uu
          have y0 := fun x => (uu x).1.1
          have y1 := fun x => (uu x).1.2.1
          have y2 := fun x => (uu x).1.2.2.1
          have y3 := fun x => (uu x).1.2.2.2
          have y4 := fun x => (uu x).2.1
          have y5 := fun x => (uu x).2.2.1
          have y6 := fun x => (uu x).2.2.2.1
          have y7 := fun x => (uu x).2.2.2.2.1
          have y8 := fun x => (uu x).2.2.2.2.2.1
          have y9 := fun x => (uu x).2.2.2.2.2.2.1
          have y10 := fun x => (uu x).2.2.2.2.2.2.2
          clear uu
          go_wp2_with fail
          refine wp_region_fam (by kernel_rfl) (by kernel_rfl) ?_
          repeat (go_big_quiet_step ((first
            | (go_at_call 52; exact fam_call (kl _))
            | (go_at_call 53; exact fam_call (kb _)))))
          first | refine wpQuiet_nil ?_ | (go_big_quiet_want; go_big_quiet_op; done)
          rintro _ ⟨xq, rfl⟩
          have F3 := Lib.hid (F2.out.trans xq.fr)
          go_wp2_with fail
          go_roundw
          case rel => exact ⟨j + 1, by omega, by go_num, F3.out⟩
          case measure => (simp [intOf]; try omega)
      · have hjI : ¬ (j : Int) < (n : Int) := by omega
        have hjd : decide ((j : Int) < (n : Int)) = false := decide_eq_false hjI
        have hjd2 : decide (j < n) = false := decide_eq_false (by omega)
        clear hjn
        go_wp2_with fail
        refine wp_region_fam (by kernel_rfl) (by kernel_rfl) ?_
        repeat (go_big_quiet_step (fail))
        first | refine wpQuiet_nil ?_ | (go_big_quiet_want; go_big_quiet_op; done)
        rintro _ ⟨xq, rfl⟩
        have F3 := Lib.hid (F2.out.trans xq.fr)
        go_wp2_with fail
        go_meet
        exact ⟨rfl, F3.out⟩
      · rcases hb with ⟨e1, e2⟩ | ⟨e1, e2, e3⟩
        · obtain ⟨g, rfl⟩ := HO.out.some_ (by omega)
          have uu := fun x : Fam wr => (HO.out.fr (F2.out.trans x.fr) fun _ _ => id).e11 HN.out hu
          have hjI : (j : Int) < (n : Int) := by omega
          have huok : u.1.ok := (HRb.out.row.ok1 (List.mem_of_getElem? hu))
          have kl := fun (x : Fam wr) => KL.out x.w u huok false (by rw [← HPP.out]; exact e1.symm)
          have kb := fun (x : Fam wr) => KB.out x.w u (betP u.2 xx) (by rw [HXX.out])
          have E := EE.out u.1 false (by rw [← HPP.out]; exact (decide_eq_false e2).symm)
          have G := EG.out u.1
          clear hu huok e1 e2
          obtain ⟨⟨⟨us, uh, ul⟩, um⟩, ⟨vp, vm, ⟨vs, vh, vl⟩, vo, va⟩⟩ := u
          simp only at kl kb E G uu
          have y0 := fun x => (uu x).1.1
          have y1 := fun x => (uu x).1.2.1
          have y2 := fun x => (uu x).1.2.2.1
          have y3 := fun x => (uu x).1.2.2.2
          have y4 := fun x => (uu x).2.1
          have y5 := fun x => (uu x).2.2.1
          have y6 := fun x => (uu x).2.2.2.1
          have y7 := fun x => (uu x).2.2.2.2.1
          have y8 := fun x => (uu x).2.2.2.2.2.1
          have y9 := fun x => (uu x).2.2.2.2.2.2.1
          have y10 := fun x => (uu x).2.2.2.2.2.2.2
          clear uu
          go_wp2_with fail
          refine wp_region_fam (by kernel_rfl) (by kernel_rfl) ?_
          repeat (go_big_quiet_step ((first
            | (go_at_call 52; exact fam_call (kl _))
            | (go_at_call 53; exact fam_call (kb _)))))
          first | refine wpQuiet_nil ?_ | (go_big_quiet_want; go_big_quiet_op; done)
          rintro _ ⟨xq, rfl⟩
          have F3 := Lib.hid (F2.out.trans xq.fr)
          go_wp2_with fail
          go_meet
          exact ⟨rfl, F3.out⟩
        · obtain ⟨g, rfl⟩ := HO.out.some_ (by omega)
          have uu := fun x : Fam wr => (HO.out.fr (F2.out.trans x.fr) fun _ _ => id).e11 HN.out hu
          have hjI : (j : Int) < (n : Int) := by omega
          have huok : u.1.ok := (HRb.out.row.ok1 (List.mem_of_getElem? hu))
          have kl := fun (x : Fam wr) => KL.out x.w u huok false (by rw [← HPP.out]; exact e1.symm)
          have kb := fun (x : Fam wr) => KB.out x.w u false (by rw [← HXX.out]; exact e3.symm)
          have E := EE.out u.1 true (by rw [← HPP.out]; exact (decide_eq_true e2).symm)
          have G := EG.out u.1
          clear hu huok e1 e2 e3
          obtain ⟨⟨⟨us, uh, ul⟩, um⟩, ⟨vp, vm, ⟨vs, vh, vl⟩, vo, va⟩⟩ := u
          simp only at kl kb E G uu
          have y0 := fun x => (uu x).1.1
          have y1 := fun x => (uu x).1.2.1
          have y2 := fun x => (uu x).1.2.2.1
          have y3 := fun x => (uu x).1.2.2.2
          have y4 := fun x => (uu x).2.1
          have y5 := fun x => (uu x).2.2.1
          have y6 := fun x => (uu x).2.2.2.1
          have y7 := fun x => (uu x).2.2.2.2.1
          have y8 := fun x => (uu x).2.2.2.2.2.1
          have y9 := fun x => (uu x).2.2.2.2.2.2.1
          have y10 := fun x => (uu x).2.2.2.2.2.2.2
          clear uu
          go_wp2_with fail
          refine wp_region_fam (by kernel_rfl) (by kernel_rfl) ?_
          repeat (go_big_quiet_step ((first
            | (go_at_call 52; exact fam_call (kl _))
            | (go_at_call 53; exact fam_call (kb _)))))
          first | refine wpQuiet_nil ?_ | (go_big_quiet_want; go_big_quiet_op; done)
          rintro _ ⟨xq, rfl⟩
          have F3 := Lib.hid (F2.out.trans xq.fr)
          go_wp2_with fail
          go_meet
          exact ⟨rfl, F3.out⟩
    case rest =>
      obtain ⟨rfl, hF3⟩ := hcut
      rename World => wc
      have F3 := Lib.hid hF3
      have HOc := Lib.hid (HO.out.fr hF3 fun _ _ => id)
      have cr := (HB.out.fr hF3 id).c1'
      have hqc : q < wc.heap.size := (HB.out.fr hF3 id).lt
      obtain ⟨i0, hi0, hz0, hz1, hz2⟩ := info_parts infoTd
      have HNL := Lib.hid (show n + 1 = N.length by
        have := HN.out
        rw [HSP.out, List.length_append, List.length_take, List.length_cons, List.length_drop]
        omega)
      have HFL := Lib.hid (show flat (L1.take k) ++ (Cells.cs (α := Td) (⟨⟨⟨s, h1, l⟩, m⟩, ⟨xp, xm, ⟨xs, xh, xl⟩, xo, xa⟩⟩ : Td) ++ flat (L1.drop k)) = flat N by rw [HSP.out, flat_append, flat_cons, HT.out])
      have hTD : Cells.cs (α := Td) (⟨⟨⟨s, h1, l⟩, m⟩, ⟨xp, xm, ⟨xs, xh, xl⟩, xo, xa⟩⟩ : Td) = [.bool s, .int .u64 (h1 : Int), .int .u64 (l : Int), .int .i64 m, .int .i64 xp, .int .i64 xm, .bool xs, .int .u64 (xh : Int), .int .u64 (xl : Int), .int .i64 xo, .bool xa] := rfl
      have HTD := Lib.hid hTD
      clear hF3 hTD HLT HGE AH KL KB EE EG
      have hA : (A = none ∧ n = 0 ∧ c = 0) ∨ ∃ g, A = some ⟨g, 0, none⟩ := by
        rcases HO.out.2 with h | ⟨g, cur, h, _⟩
        · exact .inl h
        · exact .inr ⟨g, h⟩
      rcases hA with ⟨rfl, rfl, rfl⟩ | ⟨g, rfl⟩
      · obtain rfl : k = 0 := by omega
        obtain ⟨x0, x1, x2, x3⟩ := (HP.out.fr F3.out id).c4
        obtain ⟨z0, z1, z2, z3, z4, z5, z6⟩ := (HX.out.fr F3.out id).c7
        go_wp2_with (first | (at_builtin; refine wpList_append0 wc rfl (.tmp 87) (.tmp 93) 62 rfl 88 i0 Tryz.underlying62 hi0 none 0 0 [] rfl (Own.nil_ wc 88 11) rfl ?_) | (at_builtin; refine wpList_append1 wc rfl (.tmp 95) (.tmp 99) 62 rfl 88 i0 _ 11 88 Tryz.underlying62 hi0 hz0 hz1 hz2 rfl (by omega) none 0 0 [] rfl (Own.nil_ _ _ _) (Cells.cs (α := Td) (⟨⟨⟨s, h1, l⟩, m⟩, ⟨xp, xm, ⟨xs, xh, xl⟩, xo, xa⟩⟩ : Td)) rfl rfl ?_ ?_ ?_ ?_))
        · intro u hu; rw [HTD.out] at hu; simp at hu; rcases hu with rfl | rfl | rfl | rfl | rfl | rfl | rfl | rfl | rfl | rfl | rfl <;> rfl
        · omega
        · omega
        · intro g' c2 w5 ho f7 hg'
          have hg2 : wc.heap.size ≤ g' := by simpa using hg'
          have HL0 := Lib.hid (show L1 = [] from List.length_eq_zero_iff.1 HN.out)
          have HO2 := Lib.hid ho
          have F5 := Lib.hid (F3.out.trans (f7.mono fun i _ h => by simp at h))
          have HG5 := Lib.hid (show wb.heap.size ≤ g' from Nat.le_trans F3.out.size hg2)
          have cr := (HB.out.fr F5.out id).c1'
          have hqc : q < w5.heap.size := (HB.out.fr F5.out id).lt
          have hqf := (HB.out.fr F5.out id).frozen 0
          clear ho f7 hg' x0 x1 x2 x3 z0 z1 z2 z3 z4 z5 z6 hg2
          go_wp2_with (at_builtin; refine wpList_append0 w5 rfl (.tmp 102) (.tmp 108) 62 rfl 88 i0 Tryz.underlying62 hi0 (some ⟨g', 0, none⟩) 1 c2 _ rfl HO2.out rfl ?_)
          clear hi0 hz0 hz1 hz2
          have HE1 := Lib.hid (show (1 : Nat) = N.length from HNL.out)
          have HO4 := Lib.hid (show Own w5 88 11 (some ⟨g', 0, none⟩) N.length c2 (flat N) by
            rw [← HE1.out, ← HFL.out, HL0.out]
            simpa [flat] using HO2.out)
          go_wp2_with fail
          go_ret
          have k9 := HRb.out.new_ F5.out HO4.out (fun g e => by cases e; exact HG5.out) HI1.out
          rw [← HE1.out] at k9
          exact ⟨rfl, RfTo.trans HS1.out HWB.out k9⟩
      · have hcase : (k < n ∧ ¬ c = k) ∨ (k = n ∧ ¬ c = k) ∨ (k = n ∧ k = c) := by omega
        have hkc : k ≤ c := by omega
        have hkI : (k : Int) ≤ (n : Int) := by omega
        have hncI : (n : Int) ≤ (c : Int) := by omega
        go_wp2_with (at_builtin; refine wpList_appendM wc rfl (.tmp 87) (.tmp 93) 62 rfl 88 i0 _ 11 88 Tryz.underlying62 hi0 hz0 hz1 hz2 rfl (by omega) none 0 0 [] rfl (Own.nil_ _ _ _) ⟨g, 0, none⟩ k c (flat (L1.take k)) rfl ?_ ?_ ?_ ?_ ?_ ?_)
        · rw [flat_length, List.length_take]; have := HN.out; omega
        · exact src_take HOc.out HN.out (by omega)
        · exact flat_one_cell _
        · omega
        · omega
        · intro A1 c1 w4 ho1 hf1 hA1
          have hf1' : Fr N0 wc w4 := hf1.mono fun i _ h => by simp at h
          have HA1 := Lib.hid (show ∀ g, A1 = some ⟨g, 0, none⟩ → wb.heap.size ≤ g from fun g' e => by
            rcases hA1 with h | ⟨g2, h, h2⟩
            · rw [h] at e
              cases e
            · rw [h] at e
              cases e
              exact Nat.le_trans F3.out.size h2)
          have F4 := Lib.hid (F3.out.trans hf1')
          have HO1 := Lib.hid ho1
          obtain ⟨x0, x1, x2, x3⟩ := (HP.out.fr F4.out id).c4
          obtain ⟨z0, z1, z2, z3, z4, z5, z6⟩ := (HX.out.fr F4.out id).c7
          clear ho1 hf1 hf1' hA1 cr hqc
          go_wp2_with (at_builtin; refine wpList_append1 w4 rfl (.tmp 95) (.tmp 99) 62 rfl 88 i0 _ 11 88 Tryz.underlying62 hi0 hz0 hz1 hz2 rfl (by omega) A1 k c1 _ rfl HO1.out (Cells.cs (α := Td) (⟨⟨⟨s, h1, l⟩, m⟩, ⟨xp, xm, ⟨xs, xh, xl⟩, xo, xa⟩⟩ : Td)) rfl rfl ?_ ?_ ?_ ?_)
          · intro u hu; rw [HTD.out] at hu; simp at hu; rcases hu with rfl | rfl | rfl | rfl | rfl | rfl | rfl | rfl | rfl | rfl | rfl <;> rfl
          · omega
          · omega
          · intro g' c2 w5 ho f7 hg'
            have HO2 := Lib.hid ho
            have F5 := Lib.hid (F4.out.step f7 fun i hi => .inr (HA1.out i hi))
            have HG5 := Lib.hid (show wb.heap.size ≤ g' from by
              rcases hg' with k | k
              · exact HA1.out g' k
              · exact Nat.le_trans F4.out.size k)
            have cr := (HB.out.fr F5.out id).c1'
            have hqc : q < w5.heap.size := (HB.out.fr F5.out id).lt
            have hO5 := HO.out.fr F5.out fun _ _ => id
            clear ho f7 hg' x0 x1 x2 x3 z0 z1 z2 z3 z4 z5 z6 HO1 F4 HA1
            rcases hcase with ⟨hlt, hc⟩ | ⟨rfl, hc⟩ | ⟨rfl, rfl⟩
            · have HSRC := Lib.hid (src_drop hO5 HN.out hlt)
              clear hO5
              go_wp2_with (at_builtin; refine wpList_appendM w5 rfl (.tmp 102) (.tmp 108) 62 rfl 88 i0 _ 11 88 Tryz.underlying62 hi0 hz0 hz1 hz2 rfl (by omega) (some ⟨g', 0, none⟩) (k + 1) c2 _ rfl HO2.out ⟨g, k * 11, none⟩ (n - k) (c - k) (flat (L1.drop k)) rfl ?_ ?_ ?_ ?_ ?_ ?_)
              · rw [flat_length, List.length_drop]; have := HN.out; omega
              · exact HSRC.out
              · exact flat_one_cell _
              · omega
              · omega
              · intro A3 c3 w6 ho3 hf3 hA3
                have e1 : k + 1 + (n - k) = N.length := by have := HNL.out; omega
                have ho4 : Own w6 88 11 A3 N.length c3 (flat N) := by
                  rw [← e1, ← HFL.out]
                  simpa only [List.append_assoc, List.append_nil] using ho3
                have HO4 := Lib.hid ho4
                have E1 := Lib.hid e1
                have F6 := Lib.hid (show Fr N0 wb w6 from F5.out.step hf3 fun i hi => .inr (by cases hi; exact HG5.out))
                have HA6 := Lib.hid (show ∀ g, A3 = some ⟨g, 0, none⟩ → wb.heap.size ≤ g from fun g4 e => by
                  rcases hA3 with h | ⟨g2, h, h2⟩
                  · rw [h] at e
                    cases e
                    exact HG5.out
                  · rw [h] at e
                    cases e
                    exact Nat.le_trans F5.out.size h2)
                have cr := (HB.out.fr F6.out id).c1'
                have hqc : q < w6.heap.size := (HB.out.fr F6.out id).lt
                have hqf := (HB.out.fr F6.out id).frozen 0
                clear ho3 hf3 hA3 ho4 e1 hi0 hz0 hz1 hz2
                go_wp2_with fail
                go_ret
                have k9 := HRb.out.new_ F6.out HO4.out HA6.out HI1.out
                rw [← E1.out] at k9
                exact ⟨rfl, RfTo.trans HS1.out HWB.out k9⟩
            · have HDL := Lib.hid (show flat (L1.drop k) = [] by rw [List.drop_of_length_le (by have := HN.out; omega)]; rfl)
              clear hO5
              go_wp2_with (at_builtin; refine wpList_appendM w5 rfl (.tmp 102) (.tmp 108) 62 rfl 88 i0 _ 11 88 Tryz.underlying62 hi0 hz0 hz1 hz2 rfl (by omega) (some ⟨g', 0, none⟩) (k + 1) c2 _ rfl HO2.out ⟨g, k * 11, none⟩ 0 (c - k) [] rfl ?_ ?_ ?_ ?_ ?_ ?_)
              · rfl
              · nofun
              · nofun
              · omega
              · omega
              · intro A3 c3 w6 ho3 hf3 hA3
                have e1 : k + 1 = N.length := by have := HNL.out; omega
                have ho4 : Own w6 88 11 A3 N.length c3 (flat N) := by
                  rw [← e1, ← HFL.out, HDL.out]
                  simpa only [List.append_assoc, List.append_nil] using ho3
                have HO4 := Lib.hid ho4
                have E1 := Lib.hid e1
                have F6 := Lib.hid (show Fr N0 wb w6 from F5.out.step hf3 fun i hi => .inr (by cases hi; exact HG5.out))
                have HA6 := Lib.hid (show ∀ g, A3 = some ⟨g, 0, none⟩ → wb.heap.size ≤ g from fun g4 e => by
                  rcases hA3 with h | ⟨g2, h, h2⟩
                  · rw [h] at e
                    cases e
                    exact HG5.out
                  · rw [h] at e
                    cases e
                    exact Nat.le_trans F5.out.size h2)
                have cr := (HB.out.fr F6.out id).c1'
                have hqc : q < w6.heap.size := (HB.out.fr F6.out id).lt
                have hqf := (HB.out.fr F6.out id).frozen 0
                clear ho3 hf3 hA3 ho4 e1 hi0 hz0 hz1 hz2
                go_wp2_with fail
                go_ret
                have k9 := HRb.out.new_ F6.out HO4.out HA6.out HI1.out
                rw [← E1.out] at k9
                exact ⟨rfl, RfTo.trans HS1.out HWB.out k9⟩
            · have HDL := Lib.hid (show flat (L1.drop k) = [] by rw [List.drop_of_length_le (by have := HN.out; omega)]; rfl)
              clear hO5
              go_wp2_with (at_builtin; refine wpList_appendM w5 rfl (.tmp 102) (.tmp 108) 62 rfl 88 i0 _ 11 88 Tryz.underlying62 hi0 hz0 hz1 hz2 rfl (by omega) (some ⟨g', 0, none⟩) (k + 1) c2 _ rfl HO2.out ⟨g, 0, none⟩ 0 0 [] rfl ?_ ?_ ?_ ?_ ?_ ?_)
              · rfl
              · nofun
              · nofun
              · omega
              · omega
              · intro A3 c3 w6 ho3 hf3 hA3
                have e1 : k + 1 = N.length := by have := HNL.out; omega
                have ho4 : Own w6 88 11 A3 N.length c3 (flat N) := by
                  rw [← e1, ← HFL.out, HDL.out]
                  simpa only [List.append_assoc, List.append_nil] using ho3
                have HO4 := Lib.hid ho4
                have E1 := Lib.hid e1
                have F6 := Lib.hid (show Fr N0 wb w6 from F5.out.step hf3 fun i hi => .inr (by cases hi; exact HG5.out))
                have HA6 := Lib.hid (show ∀ g, A3 = some ⟨g, 0, none⟩ → wb.heap.size ≤ g from fun g4 e => by
                  rcases hA3 with h | ⟨g2, h, h2⟩
                  · rw [h] at e
                    cases e
                    exact HG5.out
                  · rw [h] at e
                    cases e
                    exact Nat.le_trans F5.out.size h2)
                have cr := (HB.out.fr F6.out id).c1'
                have hqc : q < w6.heap.size := (HB.out.fr F6.out id).lt
                have hqf := (HB.out.fr F6.out id).frozen 0
                clear ho3 hf3 hA3 ho4 e1 hi0 hz0 hz1 hz2
                go_wp2_with fail
                go_ret
                have k9 := HRb.out.new_ F6.out HO4.out HA6.out HI1.out
                rw [← E1.out] at k9
                exact ⟨rfl, RfTo.trans HS1.out HWB.out k9⟩
end
end Go.Proofs.YtnklbeigikcfkaaGreatDoor
namespace Go.Proofs.YtnklbeigikcfkaaGreatDoor
open Go.Proofs Go.RowKit
/-- 'append(s, x...)' onto a slice of the call's own, as an equation on its run. -/
theorem run_appendM {P : Program} (w : World) (t ty : TypeId)
    (e : TypeId) (i : TypeInfo) (z : Value) (size bytes : Nat) (ht : P.underlying t = some (.slice e)) (hi : P.info? e = some i) (hz : i.zero = some z)
    (hsize : i.size = size) (hby : i.bytes = bytes) (hzs : z.cells.size = size) (hsz : 0 < size)
    (A : Option Addr) (n c : Nat) (xs : List Value) (hown : Own w e size A n c xs)
    (ad : Addr) (m cm : Nat) (us : List Value) (hl : us.length = m * size) (hus : ∀ j u, us[j]? = some u → w.cell? (ad.add j) = some u) (h1 : ∀ u ∈ us, u.oneCell' = true)
    (hbytes : (n + m) * bytes ≤ 140737488355328) (h63 : n + m ≤ 9223372036854775807) :
    ∃ A' c' w', (Builtin.append_ #[t, t] ty #[.slice A n c, .slice (some ad) m cm]).run P w = .ok (.slice A' (n + m) c') w' ∧
      Own w' e size A' (n + m) c' (xs ++ us) ∧ Fr (fun i => A = some ⟨i, 0, none⟩) w w' ∧ (A' = A ∨ ∃ g', A' = some ⟨g', 0, none⟩ ∧ w.heap.size ≤ g') := by
  obtain ⟨v', w1, hrun, hown', hgrow, hnil, hat⟩ := run_append_own_at (P := P) w 0 t ty e i z size bytes ht hi hz hsize hby hzs hsz _ n xs hown.row ad m cm us hl hus h1 h63 hbytes (Nat.zero_le _)
  have hfr : Fr (fun i => A = some ⟨i, 0, none⟩) w w1 := by
    refine Fr.grown (Fr.refl _ w) hgrow fun i hi => ?_
    cases A with
    | none => simp [Value.ownBlock] at hi
    | some ad =>
      left
      simp [Value.ownBlock] at hi
      rcases hown.2 with ⟨h, _⟩ | ⟨g, _, hg, _⟩
      · cases h
      · injection hg with hg
        subst hg
        simp at hi
        rw [hi]
  rcases hown'.2 with ⟨hv, h0⟩ | ⟨g', c', cur, hv, _⟩
  · have hA := (hnil.1 hv).1
    injection hA with hA1 _ _
    have hn0 : n + m = 0 := h0
    have hxs : xs ++ us = [] := List.length_eq_zero_iff.1 (by rw [hown'.1, hn0, Nat.zero_mul])
    exact ⟨none, 0, w1, by rw [hrun, hv, hn0], by rw [hn0, hxs]; exact Own.nil_ _ _ _, hfr, .inl hA1.symm⟩
  · subst hv
    refine ⟨_, c', w1, hrun, Own.of_row hown', hfr, ?_⟩
    rcases hat with hat | hat
    · left
      cases A with
      | none => simp [Value.ownBlock] at hat
      | some ad =>
        rcases hown.2 with ⟨h, _⟩ | ⟨g, _, hg, _⟩
        · cases h
        · injection hg with hg
          subst hg
          simp [Value.ownBlock] at hat
          rw [hat]
    · right
      simp [Value.ownBlock] at hat
      exact ⟨g', rfl, by omega⟩
section
variable {w : World}
theorem rf_put (q : Nat) (Ft : Nat → Prop) (L : List Td) (p : Px) (x : Pa) (h : Rf w q Ft L) (hp : p.ok) (hx : x.ok) :
    Calls Tryz.prog 28 #[.pointer (some ⟨q, 0, none⟩), pxV p, paV x] w fun e w' => e = .returned (.int .i64 (putT clsA L p x).2) ∧ RfTo w q Ft (putT clsA L p x).1 w' := by
  cases hm : mayA p x with
  | false =>
    rw [put_bad hm]
    exact rf_pbad q Ft L p x h hp hx hm
  | true =>
    have hr := h.row.put (p := p) (x := x) hp.ad hx
    cases hw : L.any (wayT p x) with
    | true =>
      have e : putT clsA L p x = (insT (p, x) (noW p x L), 0) := by
        unfold putT
        rw [if_neg (by rw [show mayP clsA p x = true from hm]; simp), if_pos hw]
        rfl
      rw [e] at hr ⊢
      exact rf_pnew q Ft L (noW p x L) p x h hp hx hm hr (.inl ⟨hw, rfl, h.row.drop' _⟩)
    | false =>
      have hw' : (pathsT L p).any (sameW x) = false := by rw [← any_way]; exact hw
      by_cases hf : 4 ≤ (pathsT L p).length ∨ (pathsT L p = [] ∧ 90 ≤ (prefsT L).length)
      · rw [put_full hm hw' hf]
        exact rf_pfull q Ft L p x h hp hx hm hw hf
      · have e : putT clsA L p x = (insT (p, x) L, 0) := by
          unfold putT
          rw [if_neg (by rw [show mayP clsA p x = true from hm]; simp), if_neg (by rw [hw]; simp), if_neg hf]
        rw [e] at hr ⊢
        exact rf_pnew q Ft L L p x h hp hx hm hr (.inr ⟨hw, rfl, hf⟩)
set_option maxHeartbeats 6400000 in
set_option maxRecDepth 100000 in
theorem rf_copy (q : Nat) (Ft : Nat → Prop) (L : List Td) (h : Rf w q Ft L) :
    Calls Tryz.prog 15 #[.pointer (some ⟨q, 0, none⟩)] w fun e w' => ∃ (g : Nat) (F' : Nat → Prop), e = .returned (.pointer (some ⟨g, 0, none⟩)) ∧ Rf w' g F' L ∧ Fr N0 w w' ∧ ∀ i, F' i → w.heap.size ≤ i := by
  obtain ⟨A, c, hB, hO, _⟩ := h.mem
  have hle := len_le h.row
  have hrow := h.row
  have hqw := hB.lt
  obtain ⟨gq, hgq⟩ : ∃ g, g = w.heap.size := ⟨_, rfl⟩
  obtain ⟨w1, hw1⟩ : ∃ W, W = w.alloc (.cells #[.slice none 0 0] 64) := ⟨_, rfl⟩
  have hf1 : Fr N0 w w1.drew := by rw [hw1]; exact ((Fr.refl N0 w).alloc _).drew
  have hbn : Blk w1.drew gq 64 #[.slice none 0 0] := by rw [hw1, hgq]; exact (Blk.new w _ _).drewN 1
  obtain ⟨i0, hi, hz0, hz1, hz2⟩ := info_parts infoTd
  have hrun : ∃ A' c' w', (Builtin.append_ #[62, 62] 62 #[.slice none 0 0, .slice A L.length c]).run Tryz.prog w1.drew = .ok (.slice A' L.length c') w' ∧ Own w' 88 11 A' L.length c' (flat L) ∧ Fr N0 w1.drew w' ∧ ∀ g, A' = some ⟨g, 0, none⟩ → w1.drew.heap.size ≤ g := by
    have hA : (A = none ∧ L.length = 0 ∧ c = 0) ∨ ∃ g, A = some ⟨g, 0, none⟩ := by
      rcases hO.2 with h | ⟨g, cur, h, _⟩
      · exact .inl h
      · exact .inr ⟨g, h⟩
    rcases hA with ⟨rfl, hl, rfl⟩ | ⟨g, rfl⟩
    · obtain rfl := List.length_eq_zero_iff.1 hl
      exact ⟨none, 0, w1.drew, by simp [Builtin.append_, run_underlying Tryz.underlying62, sizeOf, typeInfo, hi, Builtin.lenOf, Builtin.firstCells], Own.nil_ _ _ _, Fr.refl _ _, nofun⟩
    · have ho := hO.fr hf1 fun _ _ => id
      obtain ⟨A', c', w', k1, k2, k3, k4⟩ := run_appendM (P := Tryz.prog) w1.drew 62 62 88 i0 _ 11 88 Tryz.underlying62 hi hz0 hz1 hz2 rfl (by omega) none 0 0 [] (Own.nil_ _ _ _) ⟨g, 0, none⟩ L.length c (flat L) (flat_length L) (fun k v hk => by
        have hk' : k < L.length * 11 := by rw [← flat_length L]; exact (List.getElem?_eq_some_iff.1 hk).1
        rw [addr_add0, ho.cell k hk', hk]) (flat_one_cell L) (by omega) (by omega)
      rw [Nat.zero_add] at k1 k2
      refine ⟨A', c', w', k1, by simpa using k2, k3.mono (fun i _ h => by cases h), fun g' e => ?_⟩
      rcases k4 with k | ⟨g2, k, k5⟩
      · rw [k] at e; cases e
      · rw [k] at e; cases e; exact k5
  obtain ⟨A', c', w5, hrun, ho5, hf5, hn5⟩ := hrun
  have hbq := hbn.fr hf5 id
  have HB := Lib.hid (hB.fr hf1 id)
  have crq : w1.drew.cell? ⟨gq, 0, none⟩ = some (.slice none 0 0) := hbn.c1'
  have crs := (hB.fr hf1 id).c1'
  have cr5 := hbq.c1'
  have crf := hbq.frozen 0
  have crl := hbq.lt
  have crl1 := hbn.lt
  have H := Lib.hid hrun
  have HFIN := Lib.hid (show Rf (w5.setCell ⟨gq, 0, none⟩ (.slice A' L.length c')) gq (fun i => i = gq ∨ A' = some ⟨i, 0, none⟩) L ∧ Fr N0 w (w5.setCell ⟨gq, 0, none⟩ (.slice A' L.length c')) ∧ ∀ i, (i = gq ∨ A' = some ⟨i, 0, none⟩) → w.heap.size ≤ i from by
    refine ⟨⟨⟨A', c', hbq.set_ 0 _, ho5.fr ((Fr.refl (fun i => i = gq) w5).setCell (.inl rfl) _) fun g e k => ?_, fun g e => .inr e⟩, .inl rfl, hrow, ?_⟩, (hf1.trans hf5).setCell (.inr (by rw [hgq]; exact Nat.le_refl _)) _, ?_⟩
    · have := hn5 g e
      omega
    · rintro i (rfl | hi)
      · simpa [World.setCell] using crl
      · have := ho5.lt hi
        simpa [World.setCell] using this
    · rintro i (rfl | hi)
      · rw [hgq]; exact Nat.le_refl _
      · have := hn5 i hi
        have := hf1.size
        omega)
  clear h hB hO hrow hle hrun ho5 hf5 hn5 hbn hbq hf1 hi hz0 hz1 hz2
  generalize L.length = n at *
  go_enter Tryz.func15, Tryz.ntmps15
  go_wp2_with fail
  rw [← hw1, ← hgq]
  clear hw1 hgq
  go_region_law (refine step_append_run rfl (.tmp 10) (.tmp 14) 62 (by rfl) _ _ _ _ (by rfl) (by rfl) H.out ?_)
  all_goals go_wp2_with fail
  all_goals go_ret
  all_goals exact ⟨gq, _, rfl, HFIN.out⟩
end
end Go.Proofs.YtnklbeigikcfkaaGreatDoor
