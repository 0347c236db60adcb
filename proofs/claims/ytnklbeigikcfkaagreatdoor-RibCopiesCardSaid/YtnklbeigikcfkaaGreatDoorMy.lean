/- rib.isVia, rib.may. -/
import Derived.Test.YtnklbeigikcfkaaGreatDoorEq
import Derived.Test.YtnklbeigikcfkaaGreatDoorCs
namespace Go.Proofs.YtnklbeigikcfkaaGreatDoor
open Go.Proofs Go.RowKit
abbrev mayA := mayP clsA
section
variable {w : World}
set_option maxHeartbeats 3200000 in
set_option maxRecDepth 100000 in
theorem via_ (p : Px) (a : Ad) (port : Int) (ha : a.ok) : Calls Tryz.prog 60 #[pxV p, adV a, .int .i64 port] w fun e w' => e = .returned (.bool (viaP clsA p a port)) ∧ Fr N0 w w' := by
  have HS := Lib.hid (show viaP clsA p a port = (decide (a.six = p.ad.six) && (decide (clsA a = 5) || (decide (clsA a = 2) && decide (0 < port)))) from rfl)
  have kc := fun (W : World) => cls_ (w := W) a ha
  generalize clsA a = k at *
  generalize viaP clsA p a port = r at *
  clear ha
  obtain ⟨⟨s, h, l⟩, m⟩ := p
  obtain ⟨s', h', l'⟩ := a
  unfold adV at kc
  simp only at *
  go_enter Tryz.func60, Tryz.ntmps60
  unfold pxV adV
  go_wp2_with fail
  have HA1 := Lib.hid ((Blk.new w 32 #[Value.bool s, Value.int .u64 (h : Int), Value.int .u64 (l : Int), Value.int .i64 m]).alloc (.cells #[Value.bool s', Value.int .u64 (h' : Int), Value.int .u64 (l' : Int)] 30))
  have HA2 := Lib.hid (Blk.alloc2 w (.cells #[Value.bool s, Value.int .u64 (h : Int), Value.int .u64 (l : Int), Value.int .i64 m] 32) 30 #[Value.bool s', Value.int .u64 (h' : Int), Value.int .u64 (l' : Int)])
  have HF1 := Lib.hid (Fr.alloc (Fr.alloc (Fr.refl N0 w) (.cells #[Value.bool s, Value.int .u64 (h : Int), Value.int .u64 (l : Int), Value.int .i64 m] 32)) (.cells #[Value.bool s', Value.int .u64 (h' : Int), Value.int .u64 (l' : Int)] 30))
  generalize World.alloc (w.alloc _) _ = w1 at *
  obtain ⟨g2, hg2⟩ : ∃ g2, g2 = w.heap.size + 1 := ⟨_, rfl⟩
  rw [← hg2] at HA2 ⊢
  have HG2 : Hid (w.heap.size ≤ g2) := Lib.hid (by omega)
  obtain ⟨g1, hg1⟩ : ∃ g1, g1 = w.heap.size := ⟨_, rfl⟩
  rw [← hg1] at HA1 ⊢
  have HG1 : Hid (w.heap.size ≤ g1) := Lib.hid (by omega)
  have HN1_2 : Hid (g1 ≠ g2) := Lib.hid (by omega)
  clear hg1 hg2
  have HZ1 : Hid (∀ W, Fr N0 w1 W → Blk W g1 32 #[Value.bool s, Value.int .u64 (h : Int), Value.int .u64 (l : Int), Value.int .i64 m]) := Lib.hid fun W hf => HA1.out.fr hf id
  have HZ2 : Hid (∀ W, Fr N0 w1 W → Blk W g2 30 #[Value.bool s', Value.int .u64 (h' : Int), Value.int .u64 (l' : Int)]) := Lib.hid fun W hf => HA2.out.fr hf id
  have F := Lib.hid (Fr.refl N0 w1)
  refine (kc _).mono ?_
  rintro e w2 ⟨rfl, hf⟩
  obtain ⟨x0, x1, x2, x3⟩ := (HZ1.out _ hf).c4
  obtain ⟨y0, y1, y2⟩ := (HZ2.out _ hf).c3
  have HF := Lib.hid (HF1.out.trans hf)
  clear hf
  have hc : (s' ≠ s) ∨ (s' = s ∧ k = 5) ∨ (s' = s ∧ k ≠ 5 ∧ k = 2) ∨ (s' = s ∧ k ≠ 5 ∧ k ≠ 2) := by
    by_cases e1 : s' = s <;> by_cases e2 : k = 5 <;> by_cases e3 : k = 2 <;> simp [e1, e2, e3]
  rcases hc with e | ⟨rfl, rfl⟩ | ⟨rfl, e1, rfl⟩ | ⟨rfl, e1, e2⟩
  · have t1 : (s' == s) = false := by rw [beq_eq_false_iff_ne]; exact e
    have HR := Lib.hid (show r = false by rw [HS.out, decide_eq_false e]; rfl)
    clear HS
    go_wp2_with fail
    go_ret
    exact ⟨retb HR.out.symm, HF.out⟩
  · have HR := Lib.hid (show r = true by rw [HS.out]; simp)
    clear HS
    go_wp2_with fail
    go_ret
    exact ⟨retb HR.out.symm, HF.out⟩
  · have HR := Lib.hid (show r = decide (0 < port) by rw [HS.out]; simp)
    clear HS
    go_wp2_with fail
    go_ret
    exact ⟨retb HR.out.symm, HF.out⟩
  · have t1 : (k == 5) = false := by rw [beq_eq_false_iff_ne]; exact e1
    have t2 : (k == 2) = false := by rw [beq_eq_false_iff_ne]; exact e2
    have HR := Lib.hid (show r = false by rw [HS.out, decide_eq_false e1, decide_eq_false e2]; simp)
    clear HS
    go_wp2_with fail
    go_ret
    exact ⟨retb HR.out.symm, HF.out⟩
set_option maxHeartbeats 6400000 in
set_option maxRecDepth 100000 in
theorem may_ (p : Px) (x : Pa) (hp : p.ok) (hx : x.ok) : Calls Tryz.prog 39 #[pxV p, paV x] w fun e w' => e = .returned (.bool (mayA p x)) ∧ Fr N0 w w' := by
  have HS := Lib.hid (show mayA p x = (if validP p = false ∨ x.proto < 0 ∨ 4 < x.proto ∨ x.metric < 0 ∨ 65535 < x.metric then false
    else if x.away = true then decide (x.port = 0) && decide (x.via = ⟨false, 0, 0⟩)
    else if x.port = 0 then viaP clsA p x.via 0
    else decide (1 ≤ x.port) && decide (x.port ≤ 8) && (decide (x.via = ⟨false, 0, 0⟩) || viaP clsA p x.via x.port)) from rfl)
  have kv := fun (W : World) => val_ (w := W) p hp
  have k0 := fun (W : World) => via_ (w := W) p x.via 0 hx.via
  have kp := fun (W : World) => via_ (w := W) p x.via x.port hx.via
  obtain ⟨d, hd⟩ : ∃ d, d = decide (x.via = ⟨false, 0, 0⟩) := ⟨_, rfl⟩
  have E : ∀ W, Sem.run Tryz.prog (binOp .eql 30 (adV x.via) (.agg #[.bool false, .int .u64 0, .int .u64 0])) W = .ok (.bool d) W := fun W => hd ▸ eql_ad x.via ⟨false, 0, 0⟩ W
  have EG : ∀ X Y W, Sem.run Tryz.prog (eqGuard .eql 30 X Y (adV x.via) (.agg #[.bool false, .int .u64 0, .int .u64 0])) W = .ok () W := fun X Y W => guard_ad .eql X Y x.via ⟨false, 0, 0⟩ W
  rw [← hd] at HS
  have hpo := hx.po
  clear hd hp hx
  generalize validP p = v at *
  generalize mayA p x = r at *
  generalize viaP clsA p x.via 0 = r0 at *
  generalize viaP clsA p x.via x.port = rp at *
  obtain ⟨⟨s, h, l⟩, m⟩ := p
  obtain ⟨q, z, ⟨s', h', l'⟩, o, a⟩ := x
  obtain ⟨hpo1, hpo2⟩ := hpo
  unfold pxV adV at *
  simp only at *
  have key : (v = false ∧ r = false) ∨ (v = true ∧ q < 0 ∧ r = false) ∨ (v = true ∧ ¬ q < 0 ∧ 5 ≤ q ∧ r = false) ∨ (v = true ∧ ¬ q < 0 ∧ ¬ 5 ≤ q ∧ z < 0 ∧ r = false) ∨ (v = true ∧ ¬ q < 0 ∧ ¬ 5 ≤ q ∧ ¬ z < 0 ∧ 65535 < z ∧ r = false) ∨
      (v = true ∧ ¬ q < 0 ∧ ¬ 5 ≤ q ∧ ¬ z < 0 ∧ ¬ 65535 < z ∧ ((a = true ∧ o = 0 ∧ r = d) ∨ (a = true ∧ o ≠ 0 ∧ r = false) ∨ (a = false ∧ o = 0 ∧ r = r0) ∨ (a = false ∧ o ≠ 0 ∧ o < 1 ∧ r = false) ∨ (a = false ∧ o ≠ 0 ∧ ¬ o < 1 ∧ 8 < o ∧ r = false) ∨
        (a = false ∧ o ≠ 0 ∧ ¬ o < 1 ∧ ¬ 8 < o ∧ d = true ∧ r = true) ∨ (a = false ∧ o ≠ 0 ∧ ¬ o < 1 ∧ ¬ 8 < o ∧ d = false ∧ r = rp))) := by
    have e := HS.out
    by_cases h1 : v = false
    · exact .inl ⟨h1, by rw [e, if_pos (.inl h1)]⟩
    have h1' : v = true := by simpa using h1
    by_cases h2 : q < 0
    · exact .inr (.inl ⟨h1', h2, by rw [e, if_pos (.inr (.inl h2))]⟩)
    by_cases h3 : 5 ≤ q
    · exact .inr (.inr (.inl ⟨h1', h2, h3, by rw [e, if_pos (.inr (.inr (.inl (by omega))))]⟩))
    by_cases h4 : z < 0
    · exact .inr (.inr (.inr (.inl ⟨h1', h2, h3, h4, by rw [e, if_pos (.inr (.inr (.inr (.inl h4))))]⟩)))
    by_cases h5 : 65535 < z
    · exact .inr (.inr (.inr (.inr (.inl ⟨h1', h2, h3, h4, h5, by rw [e, if_pos (.inr (.inr (.inr (.inr h5))))]⟩))))
    rw [if_neg (by rintro (k | k | k | k | k); exact h1 k; exact h2 k; omega; exact h4 k; exact h5 k)] at e
    refine .inr (.inr (.inr (.inr (.inr ⟨h1', h2, h3, h4, h5, ?_⟩))))
    by_cases h6 : a = true
    · rw [if_pos h6] at e
      by_cases h7 : o = 0
      · exact .inl ⟨h6, h7, by rw [e, decide_eq_true h7]; rfl⟩
      · exact .inr (.inl ⟨h6, h7, by rw [e, decide_eq_false h7]; rfl⟩)
    · rw [if_neg h6] at e
      have h6' : a = false := by simpa using h6
      by_cases h7 : o = 0
      · rw [if_pos h7] at e
        exact .inr (.inr (.inl ⟨h6', h7, e⟩))
      · rw [if_neg h7] at e
        by_cases h8 : o < 1
        · exact .inr (.inr (.inr (.inl ⟨h6', h7, h8, by rw [e, decide_eq_false (by omega : ¬ 1 ≤ o)]; rfl⟩)))
        by_cases h9 : 8 < o
        · exact .inr (.inr (.inr (.inr (.inl ⟨h6', h7, h8, h9, by rw [e, decide_eq_false (by omega : ¬ o ≤ 8)]; simp⟩))))
        rw [decide_eq_true (by omega : 1 ≤ o), decide_eq_true (by omega : o ≤ 8)] at e
        cases d
        · exact .inr (.inr (.inr (.inr (.inr (.inr ⟨h6', h7, h8, h9, rfl, by simpa using e⟩)))))
        · exact .inr (.inr (.inr (.inr (.inr (.inl ⟨h6', h7, h8, h9, rfl, by simpa using e⟩)))))
  clear HS
  go_enter Tryz.func39, Tryz.ntmps39
  unfold paV
  go_wp2_with fail
  have HA1 := Lib.hid ((Blk.new w 32 #[Value.bool s, Value.int .u64 (h : Int), Value.int .u64 (l : Int), Value.int .i64 m]).alloc (.cells #[Value.int .i64 q, Value.int .i64 z, Value.bool s', Value.int .u64 (h' : Int), Value.int .u64 (l' : Int), Value.int .i64 o, Value.bool a] 34))
  have HA2 := Lib.hid (Blk.alloc2 w (.cells #[Value.bool s, Value.int .u64 (h : Int), Value.int .u64 (l : Int), Value.int .i64 m] 32) 34 #[Value.int .i64 q, Value.int .i64 z, Value.bool s', Value.int .u64 (h' : Int), Value.int .u64 (l' : Int), Value.int .i64 o, Value.bool a])
  have HF1 := Lib.hid (Fr.alloc (Fr.alloc (Fr.refl N0 w) (.cells #[Value.bool s, Value.int .u64 (h : Int), Value.int .u64 (l : Int), Value.int .i64 m] 32)) (.cells #[Value.int .i64 q, Value.int .i64 z, Value.bool s', Value.int .u64 (h' : Int), Value.int .u64 (l' : Int), Value.int .i64 o, Value.bool a] 34))
  generalize World.alloc (w.alloc _) _ = w1 at *
  obtain ⟨g2, hg2⟩ : ∃ g2, g2 = w.heap.size + 1 := ⟨_, rfl⟩
  rw [← hg2] at HA2 ⊢
  have HG2 : Hid (w.heap.size ≤ g2) := Lib.hid (by omega)
  obtain ⟨g1, hg1⟩ : ∃ g1, g1 = w.heap.size := ⟨_, rfl⟩
  rw [← hg1] at HA1 ⊢
  have HG1 : Hid (w.heap.size ≤ g1) := Lib.hid (by omega)
  have HN1_2 : Hid (g1 ≠ g2) := Lib.hid (by omega)
  clear hg1 hg2
  have HZ1 : Hid (∀ W, Fr N0 w1 W → Blk W g1 32 #[Value.bool s, Value.int .u64 (h : Int), Value.int .u64 (l : Int), Value.int .i64 m]) := Lib.hid fun W hf => HA1.out.fr hf id
  have HZ2 : Hid (∀ W, Fr N0 w1 W → Blk W g2 34 #[Value.int .i64 q, Value.int .i64 z, Value.bool s', Value.int .u64 (h' : Int), Value.int .u64 (l' : Int), Value.int .i64 o, Value.bool a]) := Lib.hid fun W hf => HA2.out.fr hf id
  have F := Lib.hid (Fr.refl N0 w1)
  refine (kv _).mono ?_
  rintro e w2 ⟨rfl, hf⟩
  obtain ⟨x0, x1, x2, x3⟩ := (HZ1.out _ hf).c4
  obtain ⟨y0, y1, y2, y3, y4, y5, y6⟩ := (HZ2.out _ hf).c7
  have HF := Lib.hid (HF1.out.trans hf)
  clear hf
  rcases key with ⟨rfl, hr⟩ | ⟨rfl, c1, hr⟩ | ⟨rfl, c1, c2, hr⟩ | ⟨rfl, c1, c2, c3, hr⟩ | ⟨rfl, c1, c2, c3, c4, hr⟩ | ⟨rfl, c1, c2, c3, c4, hk⟩
  iterate 5
    · have HR := Lib.hid hr
      clear hr
      go_wp2_with fail
      go_ret
      exact ⟨retb HR.out.symm, HF.out⟩
  rcases hk with ⟨rfl, rfl, hr⟩ | ⟨rfl, c5, hr⟩ | ⟨rfl, rfl, hr⟩ | ⟨rfl, c5, c6, hr⟩ | ⟨rfl, c5, c6, c7, hr⟩ | ⟨rfl, c5, c6, c7, rfl, hr⟩ | ⟨rfl, c5, c6, c7, rfl, hr⟩
  · have HR := Lib.hid hr
    clear hr
    go_wp2_with fail
    go_ret
    exact ⟨retb HR.out.symm, HF.out⟩
  · have HR := Lib.hid hr
    have t1 : (o == 0) = false := by rw [beq_eq_false_iff_ne]; exact c5
    clear hr
    go_wp2_with fail
    go_ret
    exact ⟨retb HR.out.symm, HF.out⟩
  · have HR := Lib.hid hr
    clear hr
    go_wp2_with fail
    refine (k0 _).mono ?_
    rintro e w3 ⟨rfl, hf⟩
    go_wp2_with fail
    go_ret
    exact ⟨retb HR.out.symm, HF.out.trans hf⟩
  · have HR := Lib.hid hr
    have t1 : (o == 0) = false := by rw [beq_eq_false_iff_ne]; exact c5
    have t2 : ¬ 1 ≤ o := by omega
    clear hr
    go_wp2_with fail
    go_ret
    exact ⟨retb HR.out.symm, HF.out⟩
  · have HR := Lib.hid hr
    have t1 : (o == 0) = false := by rw [beq_eq_false_iff_ne]; exact c5
    have t2 : 1 ≤ o := by omega
    have t3 : ¬ o ≤ 8 := by omega
    clear hr
    go_wp2_with fail
    go_ret
    exact ⟨retb HR.out.symm, HF.out⟩
  · have HR := Lib.hid hr
    have t1 : (o == 0) = false := by rw [beq_eq_false_iff_ne]; exact c5
    have t2 : 1 ≤ o := by omega
    have t3 : o ≤ 8 := by omega
    clear hr
    go_wp2_with fail
    go_ret
    exact ⟨retb HR.out.symm, HF.out⟩
  · have HR := Lib.hid hr
    have t1 : (o == 0) = false := by rw [beq_eq_false_iff_ne]; exact c5
    have t2 : 1 ≤ o := by omega
    have t3 : o ≤ 8 := by omega
    clear hr
    go_wp2_with fail
    refine (kp _).mono ?_
    rintro e w3 ⟨rfl, hf⟩
    go_wp2_with fail
    go_ret
    exact ⟨retb HR.out.symm, HF.out.trans hf⟩
end
end Go.Proofs.YtnklbeigikcfkaaGreatDoor
