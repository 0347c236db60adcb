/- A step done; a rib made by steps. RibRow: what it answers. -/
import Derived.Test.YtnklbeigikcfkaaDoorQf
import Derived.Test.YtnklbeigikcfkaaDoorAe
import Derived.Test.YtnklbeigikcfkaaDoorRp5
namespace Go.Proofs.YtnklbeigikcfkaaDoor
open Go.Proofs Go.RowKit
def stV (s : St) : Value := .agg #[.int .i64 s.what, .bool s.p.ad.six, .int .u64 (s.p.ad.hi : Int), .int .u64 (s.p.ad.lo : Int), .int .i64 s.p.bits, .int .i64 s.x.proto, .int .i64 s.x.metric, .bool s.x.via.six, .int .u64 (s.x.via.hi : Int), .int .u64 (s.x.via.lo : Int), .int .i64 s.x.port, .bool s.x.away]
def doT (L : List Td) (s : St) : List Td × Int × Int :=
  if s.what % 8 = 3 then ((dropT L s.p s.x).1, 0, (dropT L s.p s.x).2)
  else if s.what % 8 = 4 then (flushT L s.x.proto, (L.length : Int) - ((flushT L s.x.proto).length : Int), 0)
  else ((putT clsA L s.p s.x).1, 0, (putT clsA L s.p s.x).2)
section
variable {w wr : World} {r : Nat} {N : Nat → Prop} {L : List Td}
set_option maxHeartbeats 6400000 in
set_option maxRecDepth 100000 in
theorem RB.step_ (h : RB w wr r N L) (s : St) (hs : s.ok) :
    Calls Tryd.prog 27 #[.pointer (some ⟨r, 0, none⟩), stV s] wr fun e w' => e = .returned (.tuple #[.int .i64 (doT L s).2.1, .int .i64 (doT L s).2.2]) ∧ RBTo w wr r N (doT L s).1 w' := by
  obtain ⟨hs1, hs2, hs3⟩ := hs
  obtain ⟨q, p, x⟩ := s
  simp only at hs1 hs2 hs3
  have hand := i64_and7 q
  have kd := fun (W : World) (h' : RB w W r N L) => h'.drop p x hs2
  have kf := fun (W : World) (h' : RB w W r N L) => h'.flush x.proto
  have kp := fun (W : World) (h' : RB w W r N L) => h'.put p x hs2 hs3
  have HD := Lib.hid (show doT L ⟨q, p, x⟩ = if q % 8 = 3 then ((dropT L p x).1, 0, (dropT L p x).2) else if q % 8 = 4 then (flushT L x.proto, (L.length : Int) - ((flushT L x.proto).length : Int), 0) else ((putT clsA L p x).1, 0, (putT clsA L p x).2) from rfl)
  obtain ⟨D, hD⟩ : ∃ D, D = doT L ⟨q, p, x⟩ := ⟨_, rfl⟩
  rw [← hD] at HD ⊢
  clear hD hs1 hs2 hs3
  unfold stV
  simp only
  obtain ⟨⟨s1, h1, l1⟩, m1⟩ := p
  obtain ⟨p2, m2, ⟨s2, h2, l2⟩, o2, a2⟩ := x
  unfold pxV paV at *
  simp only at *
  have HF := Lib.hid ((Fr.refl N0 wr).alloc (.cells #[.int .i64 q, .bool s1, .int .u64 (h1 : Int), .int .u64 (l1 : Int), .int .i64 m1, .int .i64 p2, .int .i64 m2, .bool s2, .int .u64 (h2 : Int), .int .u64 (l2 : Int), .int .i64 o2, .bool a2] 59))
  have H2 := Lib.hid (h.n0 HF.out)
  have hB := Blk.new wr 59 #[.int .i64 q, .bool s1, .int .u64 (h1 : Int), .int .u64 (l1 : Int), .int .i64 m1, .int .i64 p2, .int .i64 m2, .bool s2, .int .u64 (h2 : Int), .int .u64 (l2 : Int), .int .i64 o2, .bool a2]
  have z0 := hB.cell 0
  have z1 := hB.cell 1
  have z2 := hB.cell 2
  have z3 := hB.cell 3
  have z4 := hB.cell 4
  have z5 := hB.cell 5
  have z6 := hB.cell 6
  have z7 := hB.cell 7
  have z8 := hB.cell 8
  have z9 := hB.cell 9
  have z10 := hB.cell 10
  have z11 := hB.cell 11
  simp only [List.getElem?_toArray, List.getElem?_cons_zero, List.getElem?_cons_succ] at z0 z1 z2 z3 z4 z5 z6 z7 z8 z9 z10 z11
  clear hB h
  generalize q % 8 = u at *
  have hto : ∀ (L' : List Td) (w' : World), RBTo w (wr.alloc (.cells #[.int .i64 q, .bool s1, .int .u64 (h1 : Int), .int .u64 (l1 : Int), .int .i64 m1, .int .i64 p2, .int .i64 m2, .bool s2, .int .u64 (h2 : Int), .int .u64 (l2 : Int), .int .i64 o2, .bool a2] 59)) r N L' w' → RBTo w wr r N L' w' := fun _ _ h => ⟨h.1, (HF.out.mono fun _ _ k => k.elim).trans h.2⟩
  have HTO := Lib.hid hto
  clear hto
  by_cases e3 : u = 3
  · subst e3
    have HR := Lib.hid (HD.out.trans (if_pos rfl))
    clear HD
    have k := kd _ H2.out
    clear kd kf kp
    go_enter Tryd.func27, Tryd.ntmps27
    go_wp2_with fail
    refine k.mono ?_
    rintro e w3 ⟨rfl, ht⟩
    go_wp2_with fail
    go_ret2
    rw [HR.out]
    exact ⟨rfl, HTO.out _ _ ht⟩
  · have t3 : (u == 3) = false := by rw [beq_eq_false_iff_ne]; exact e3
    by_cases e4 : u = 4
    · subst e4
      have HR := Lib.hid (HD.out.trans ((if_neg e3).trans (if_pos rfl)))
      clear HD
      have k := kf _ H2.out
      clear kd kf kp
      go_enter Tryd.func27, Tryd.ntmps27
      go_wp2_with fail
      refine k.mono ?_
      rintro e w3 ⟨rfl, ht⟩
      go_wp2_with fail
      go_ret2
      rw [HR.out]
      exact ⟨rfl, HTO.out _ _ ht⟩
    · have t4 : (u == 4) = false := by rw [beq_eq_false_iff_ne]; exact e4
      have HR := Lib.hid (HD.out.trans ((if_neg e3).trans (if_neg e4)))
      clear HD
      have k := kp _ H2.out
      clear kd kf kp
      go_enter Tryd.func27, Tryd.ntmps27
      go_wp2_with fail
      refine k.mono ?_
      rintro e w3 ⟨rfl, ht⟩
      go_wp2_with fail
      go_ret2
      rw [HR.out]
      exact ⟨rfl, HTO.out _ _ ht⟩
end
def madeT (l : List St) : List Td := l.foldl (fun L s => (doT L s).1) []
theorem madeT_snoc (l : List St) (s : St) : madeT (l ++ [s]) = (doT (madeT l) s).1 := by unfold madeT; rw [List.foldl_append]; rfl
theorem StIn.at {w W : World} {A : Option Addr} {l : List St} (h : StIn w A l) (hf : Fr N0 w W) {j : Nat} {s : St} (hj : l[j]? = some s) : ∃ b off, A = some ⟨b, off, none⟩ ∧ s.ok ∧ ∀ k v, (St.cs s)[k]? = some v → W.cell? ⟨b, off + (j * 12 + k), none⟩ = some v := by
  obtain ⟨b, off, hA, hb, hc⟩ := h (fun e => by rw [e] at hj; simp at hj)
  obtain ⟨hs, hcs⟩ := hc j s hj
  exact ⟨b, off, hA, hs, fun k v hk => by
    have := hcs k v hk
    rw [hf.cell (p := ⟨b, off + (j * 12 + k), none⟩) (World.block_lt_of_cell? _ _ this) id]
    exact this⟩
set_option maxHeartbeats 6400000 in
set_option maxRecDepth 100000 in
theorem made_ {w : World} (hd : Dst w) (A : Option Addr) (n c : Nat) (l : List St) (hs : StIn w A l) (hl : l.length = n) :
    Calls Tryd.prog 10 #[.slice A n c] w fun e w' => ∃ g, e = .returned (.pointer (some ⟨g, 0, none⟩)) ∧ w.heap.size ≤ g ∧ RB w w' g N0 (madeT (l.take 60)) := by
  have k1 := rb_new hd
  have HS := Lib.hid hs
  have HL := Lib.hid hl
  clear hs hl hd
  go_enter Tryd.func10, Tryd.ntmps10
  go_wp2_with fail
  refine k1.mono ?_
  rintro e w1 ⟨r, rfl, hr, h1⟩
  have H1 := Lib.hid h1
  have HRW := Lib.hid hr
  clear k1 h1 hr
  go_wp2_with fail
  go_loopw [4] (fun vi wr => ∃ j : Nat, j ≤ n ∧ j ≤ 60 ∧ vi = .int .i64 (j : Int) ∧ RB w wr r N0 (madeT (l.take j))) (fun vi _ => 61 - (intOf vi).toNat)
  case atStart => exact ⟨0, Nat.zero_le _, Nat.zero_le _, rfl, H1.out⟩
  case round =>
    obtain ⟨j, hj, hj6, rfl, hR⟩ := hrel
    have HR := Lib.hid hR
    clear hR H1
    by_cases hjn : j < n
    · have hjI : (j : Int) < (n : Int) := by omega
      by_cases hj60 : j < 60
      · have hj60I : (j : Int) < 60 := by omega
        obtain ⟨s, hsj⟩ : ∃ s, l[j]? = some s := ⟨_, List.getElem?_eq_getElem (by have := HL.out; omega)⟩
        obtain ⟨b, off, rfl, hok, hc⟩ := HS.out.at HR.out.fr hsj
        have HT := Lib.hid (show l.take (j + 1) = l.take j ++ [s] by
          obtain ⟨hj, e⟩ := List.getElem?_eq_some_iff.1 hsj
          rw [List.take_succ_eq_append_getElem hj, e])
        have k2 := HR.out.step_ s hok
        obtain ⟨q, ⟨⟨s1, h1, l1⟩, m1⟩, ⟨p2, m2, ⟨s2, h2, l2⟩, o2, a2⟩⟩ := s
        have c0 := hc 0 _ rfl
        have c1 := hc 1 _ rfl
        have c2 := hc 2 _ rfl
        have c3 := hc 3 _ rfl
        have c4 := hc 4 _ rfl
        have c5 := hc 5 _ rfl
        have c6 := hc 6 _ rfl
        have c7 := hc 7 _ rfl
        have c8 := hc 8 _ rfl
        have c9 := hc 9 _ rfl
        have c10 := hc 10 _ rfl
        have c11 := hc 11 _ rfl
        unfold stV at k2
        simp only [← Nat.add_assoc, Nat.add_zero] at k2 c0 c1 c2 c3 c4 c5 c6 c7 c8 c9 c10 c11
        clear hc hsj hok
        go_wp2_with fail
        refine k2.mono ?_
        rintro e w3 ⟨rfl, ht⟩
        have H3 := Lib.hid ht.1
        clear ht k2 c0 c1 c2 c3 c4 c5 c6 c7 c8 c9 c10 c11
        go_wp2_with fail
        go_roundw
        case rel => exact ⟨j + 1, by omega, by omega, by go_num, by rw [HT.out, madeT_snoc]; exact H3.out⟩
        case measure => simp [intOf]; omega
      · have hj60I : ¬ (j : Int) < 60 := by omega
        obtain rfl : j = 60 := by omega
        go_wp2_with fail
        go_ret
        exact ⟨r, rfl, HRW.out, HR.out⟩
    · have hjI : ¬ (j : Int) < (n : Int) := by omega
      have HT := Lib.hid (show l.take 60 = l.take j by
        rw [List.take_of_length_le (by have := HL.out; omega), List.take_of_length_le (by have := HL.out; omega)])
      go_wp2_with fail
      go_ret
      exact ⟨r, rfl, HRW.out, by rw [HT.out]; exact HR.out⟩
end Go.Proofs.YtnklbeigikcfkaaDoor
namespace Go.Proofs.YtnklbeigikcfkaaDoor
open Go.Proofs Go.Shelf Go.RowKit
theorem take_mem {l : List Px} {k : Nat} {p q : Px} (h : l[k]? = some q) : p ∈ l.take (k + 1) ↔ p ∈ l.take k ∨ p = q := by
  obtain ⟨hk, e⟩ := List.getElem?_eq_some_iff.1 h
  rw [List.take_succ_eq_append_getElem hk, e, List.mem_append, List.mem_singleton]
theorem StIn.fr {w w' : World} {A : Option Addr} {l : List St} (h : StIn w A l) (hf : Fr N0 w w') : StIn w' A l := by
  intro hl
  obtain ⟨b, off, hA, hb, hc⟩ := h hl
  exact ⟨b, off, hA, Nat.lt_of_lt_of_le hb hf.size, fun i s his => ⟨(hc i s his).1, fun j v hv => (hf.cell (p := ⟨b, off + (i * 12 + j), none⟩) hb id).trans ((hc i s his).2 j v hv)⟩⟩
theorem best_head {L : List Td} {p : Px} {x : Pa} (h : (pathsT L p)[0]? = some x) : bestT L p = (x, true) := by
  unfold bestT
  cases e : pathsT L p with
  | nil => rw [e] at h; cases h
  | cons y r => rw [e] at h; cases h; rfl
theorem paths_ok {L : List Td} (h : RowT clsA L) {p : Px} {x : Pa} {k : Nat} (hx : (pathsT L p)[k]? = some x) : x.ok := (h.ok _ (mem_pathsT.1 (List.mem_of_getElem? hx))).2
def FndP (P : Px) (l : List Px) (k : Nat) (f : Bool) : Prop := f = true ↔ P ∈ l.take k
set_option maxHeartbeats 25600000 in
set_option maxRecDepth 100000 in
theorem row_any {w : World} (hd : Dst w) (A : Option Addr) (n c : Nat) (l : List St) (hs : StIn w A l) (hl : l.length = n) :
    Calls Tryd.prog 5 #[.slice A n c] w fun e w' => e = .returned (.bool true) ∧ Fr N0 w w' := by
  have ka := awake15 hd
  have KM := Lib.hid fun (W : World) (hW : Fr N0 w W) => made_ (w := W) (hd.n0 hW) A n c l (hs.fr hW) hl
  clear hs hl hd
  go_enter Tryd.func5, Tryd.ntmps5
  go_wp2_with fail
  refine ka.mono ?_
  rintro e w1 ⟨rfl, hf⟩
  have HF1 := Lib.hid hf
  clear hf ka
  go_wp2_with fail
  refine (KM.out _ HF1.out).mono ?_
  rintro e w2 ⟨r, rfl, hr, h2⟩
  generalize madeT (l.take 60) = L at *
  have H2 := Lib.hid h2
  clear h2 KM hr
  go_wp2_with fail
  refine H2.out.prefs.mono ?_
  rintro e w3 ⟨v, rfl, A3, c3, rfl, ho, hf, _⟩
  obtain ⟨m, hm⟩ : ∃ m, m = (prefsT L).length := ⟨_, rfl⟩
  rw [← hm] at ho ⊢
  have HM := Lib.hid hm
  have HO := Lib.hid ho
  have H3 := Lib.hid (H2.out.n0 hf)
  have hm90 : m ≤ 90 := by have := H2.out.row.many; omega
  clear ho hf hm H2
  go_wp2_with fail
  go_loopw [6, 7] (fun vn vi wr => ∃ j : Nat, j ≤ m ∧ vn = .int .i64 ((sumK L j : Nat) : Int) ∧ vi = .int .i64 (j : Int) ∧ RB w1 wr r N0 L ∧ Own wr 37 4 A3 m c3 (flat (prefsT L))) (fun _ vi _ => m - (intOf vi).toNat)
  case atStart => exact ⟨0, Nat.zero_le _, rfl, rfl, H3.out, HO.out⟩
  case round =>
    obtain ⟨j, hj, rfl, rfl, hR, hO⟩ := hrel
    rename World => wo
    clear H3 HO
    have HR := Lib.hid hR
    have HO := Lib.hid hO
    by_cases hjm : j < m
    · obtain ⟨p, hp⟩ : ∃ p, (prefsT L)[j]? = some p := ⟨_, List.getElem?_eq_getElem (by have := HM.out; omega)⟩
      have hpm := List.mem_of_getElem? hp
      have hok := (HR.out.row.px hpm).1
      have hsk := sumK_succ hp
      have hsl := sumK_le HR.out.row j
      obtain ⟨g, rfl⟩ := hO.some_ (by omega)
      obtain ⟨x, hx⟩ : ∃ x, (pathsT L p)[0]? = some x := by
        have := paths_prefs.2 hpm
        exact ⟨_, List.getElem?_eq_getElem (List.length_pos_iff.2 this)⟩
      obtain ⟨q, hq⟩ : ∃ q, q = (pathsT L p).length := ⟨_, rfl⟩
      have hq4 : q ≤ 4 := by have := HR.out.row.four p; omega
      have hq0 : 0 < q := by have := (List.getElem?_eq_some_iff.1 hx).1; omega
      have hbs := best_head hx
      have KP := Lib.hid fun (W : World) (hW : Fr N0 wo W) => (HR.out.n0 hW).paths p hok
      have KB := Lib.hid fun (W : World) (hW : Fr N0 wo W) => (HR.out.n0 hW).best p hok
      have KO := Lib.hid fun (W : World) (hW : Fr N0 wo W) => (HR.out.n0 hW).over p.ad hok.1
      rw [hbs] at KB
      rw [← hq] at hsk
      unfold NewPs at KP
      rw [← hq] at KP
      have HP := Lib.hid hp
      have HPM := Lib.hid hpm
      have HX := Lib.hid hx
      have HQ := Lib.hid hq
      have HSK := Lib.hid hsk
      generalize sumK L j = t at *
      have ht : t ≤ 360 := by omega
      obtain ⟨y0, y1, y2, y3⟩ := HO.out.e4 HM.out.symm HP.out
      clear hp hpm hok hsk hsl hx hq hbs hR hO
      obtain ⟨l0, hl0⟩ : ∃ l, l = pathsT L p := ⟨_, rfl⟩
      obtain ⟨l1, hl1⟩ : ∃ l, l = overT L p.ad := ⟨_, rfl⟩
      have KBT := Lib.hid fun (W : World) (hW : Fr N0 wo W) (u v : Pa) (hu : u.ok) (hv : v.ok) => (HR.out.n0 hW).bet u v hu hv
      have HL0 := Lib.hid hl0
      have HL1 := Lib.hid hl1
      rw [← hl0] at KP
      rw [← hl1] at KO
      have hjI : (j : Int) < (m : Int) := by omega
      clear hl0 hl1
      obtain ⟨P, hP⟩ : ∃ P, P = p := ⟨_, rfl⟩
      have HPP := Lib.hid hP
      clear hP
      obtain ⟨⟨s, h1, l2⟩, b⟩ := p
      obtain ⟨X, hX⟩ : ∃ X, X = x := ⟨_, rfl⟩
      have HXX := Lib.hid hX
      clear hX
      obtain ⟨xp, xm, ⟨xs, xh, xl⟩, xo, xa⟩ := x
      unfold pxV at KP KB
      unfold paV at KB
      unfold adV at KO
      simp only at KP KB KO y0 y1 y2 y3
      go_wp2_with fail
      refine (KP.out _ (Fr.refl _ _)).mono ?_
      rintro e w4 ⟨v, rfl, A4, c4, rfl, ho4, hf4, _⟩
      have F4 := Lib.hid hf4
      have HO4 := Lib.hid ho4
      clear hf4 ho4 y0 y1 y2 y3
      obtain ⟨y0, y1, y2, y3⟩ := (HO.out.fr F4.out fun _ _ => id).e4 HM.out.symm HP.out
      simp only at y0 y1 y2 y3
      obtain ⟨g4, rfl⟩ := HO4.out.some_ hq0
      go_wp2_with fail
      refine (KB.out _ F4.out).mono ?_
      rintro e w5 ⟨rfl, hf5⟩
      have F5 := Lib.hid (F4.out.trans hf5)
      have HO5 := Lib.hid (HO4.out.fr hf5 fun _ _ => id)
      have HZ := Lib.hid (Blk.new w5 26 #[.int .i64 xp, .int .i64 xm, .bool xs, .int .u64 (xh : Int), .int .u64 (xl : Int), .int .i64 xo, .bool xa])
      have hF := (Fr.refl N0 w5).alloc (.cells #[.int .i64 xp, .int .i64 xm, .bool xs, .int .u64 (xh : Int), .int .u64 (xl : Int), .int .i64 xo, .bool xa] 26)
      have F6 := Lib.hid (F5.out.trans hF)
      have HO6 := Lib.hid (HO5.out.fr hF fun _ _ => id)
      clear hf5 HO4 F4 F5 HO5 hF y0 y1 y2 y3
      go_wp2_with fail
      generalize w5.alloc (.cells #[.int .i64 xp, .int .i64 xm, .bool xs, .int .u64 (xh : Int), .int .u64 (xl : Int), .int .i64 xo, .bool xa] 26) = w6 at *
      obtain ⟨gz, hgz⟩ : ∃ g, g = w5.heap.size := ⟨_, rfl⟩
      rw [← hgz] at HZ ⊢
      clear hgz
      have HLQ := Lib.hid (show l0.length = q by rw [HL0.out, HQ.out])
      have HXL := Lib.hid (show l0[0]? = some _ by rw [HL0.out]; exact HX.out)
      obtain ⟨z0, z1, z2, z3, z4, z5, z6⟩ := HZ.out.c7
      obtain ⟨e0, e1, e2, e3, e4, e5, e6⟩ := HO6.out.e7 HLQ.out HXL.out
      simp only [Nat.zero_mul, Nat.zero_add] at e0 e1 e2 e3 e4 e5 e6
      have E := fun W => neql_pa ⟨xp, xm, ⟨xs, xh, xl⟩, xo, xa⟩ ⟨xp, xm, ⟨xs, xh, xl⟩, xo, xa⟩ W
      have EG := fun X Y W => nguard_pa X Y ⟨xp, xm, ⟨xs, xh, xl⟩, xo, xa⟩ ⟨xp, xm, ⟨xs, xh, xl⟩, xo, xa⟩ W
      rw [decide_eq_true rfl] at E
      unfold paV at E EG
      simp only at E EG
      have t1 : ((q : Int) == 0) = false := by rw [beq_eq_false_iff_ne]; omega
      have t2 : decide ((4 : Int) < (q : Int)) = false := decide_eq_false (by omega)
      have t3 : ¬ ((4 : Int) < (q : Int)) := by omega
      have hq0I : (0 : Int) < (q : Int) := by omega
      go_region
      clear z0 z1 z2 z3 z4 z5 z6 e0 e1 e2 e3 e4 e5 e6 E EG t1 t2 t3
      go_wp2_with fail
      go_loopw [11] (fun vk wr => ∃ k : Nat, k + 1 ≤ q ∧ vk = .int .i64 ((k : Int) + 1) ∧ Fr N0 w6 wr) (fun vk _ => q + 1 - (intOf vk).toNat)
      case atStart => exact ⟨0, hq0, rfl, (Fr.refl _ _).drew⟩
      case round =>
        obtain ⟨k, hk, rfl, hF⟩ := hrel
        have F7 := Lib.hid (F6.out.trans hF)
        have HO7 := Lib.hid (HO6.out.fr hF fun _ _ => id)
        have hFW := Lib.hid hF
        clear hF
        by_cases hkq : k + 1 < q
        · obtain ⟨u, hu⟩ : ∃ u, l0[k]? = some u := ⟨_, List.getElem?_eq_getElem (by have := HLQ.out; omega)⟩
          obtain ⟨v, hv⟩ : ∃ u, l0[k + 1]? = some u := ⟨_, List.getElem?_eq_getElem (by have := HLQ.out; omega)⟩
          have hb : betP u v = true := paths_step HR.out.row (by rw [← HL0.out]; exact hu) (by rw [← HL0.out]; exact hv)
          have huo : u.ok := paths_ok HR.out.row (by rw [← HL0.out]; exact hu)
          have hvo : v.ok := paths_ok HR.out.row (by rw [← HL0.out]; exact hv)
          have KBB := fun (x : Fam wr) => KBT.out x.w (F7.out.trans x.fr) u v huo hvo
          rw [hb] at KBB
          have zz := fun x : Fam wr => (HO7.out.fr x.fr fun _ _ => id).e7 HLQ.out hu
          have ee := fun x : Fam wr => (HO7.out.fr x.fr fun _ _ => id).e7 HLQ.out hv
          clear hu hv hb huo hvo
          obtain ⟨up, um, ⟨us, uh, ul⟩, uo, ua⟩ := u
          obtain ⟨vp, vm, ⟨vs, vh, vl⟩, vo, va⟩ := v
          unfold paV at KBB
          simp only at KBB zz ee
          have z0 := fun x => (zz x).1
          have z1 := fun x => (zz x).2.1
          have z2 := fun x => (zz x).2.2.1
          have z3 := fun x => (zz x).2.2.2.1
          have z4 := fun x => (zz x).2.2.2.2.1
          have z5 := fun x => (zz x).2.2.2.2.2.1
          have z6 := fun x => (zz x).2.2.2.2.2.2
          have e0 := fun x => (ee x).1
          have e1 := fun x => (ee x).2.1
          have e2 := fun x => (ee x).2.2.1
          have e3 := fun x => (ee x).2.2.2.1
          have e4 := fun x => (ee x).2.2.2.2.1
          have e5 := fun x => (ee x).2.2.2.2.2.1
          have e6 := fun x => (ee x).2.2.2.2.2.2
          clear zz ee
          have hkI : (k : Int) + 1 < (q : Int) := by omega
          have hkI2 : (k : Int) < (q : Int) := by omega
          have hk0 : 0 ≤ (k : Int) := by omega
          have hk1 : 0 ≤ (k : Int) + 1 := by omega
          have hkn : ((k : Int) + 1).toNat = k + 1 := by omega
          have hkw : IntKind.i64.wrap ((k : Int) + 1 - 1) = (k : Int) := by rw [Int.add_sub_cancel]; exact IntWalk.i64_in _ (by omega)
          go_wp2_with fail
          refine wp_region_fam (by kernel_rfl) (by kernel_rfl) ?_
          repeat (go_big_quiet_step ((go_at_call 8; exact fam_call (KBB _))))
          first | refine wpQuiet_nil ?_ | (go_big_quiet_want; go_big_quiet_op; done)
          rintro _ ⟨xq, rfl⟩
          have F8 := Lib.hid (F7.out.trans xq.fr)
          clear z0 z1 z2 z3 z4 z5 z6 e0 e1 e2 e3 e4 e5 e6 KBB hkw hkn
          have F6X := Lib.hid xq.fr
          go_wp2_with fail
          go_roundw
          case rel => exact ⟨k + 1, by omega, by go_num, hFW.out.trans F6X.out⟩
          case measure => (simp [intOf]; try omega)
        · have hkI : ¬ (k : Int) + 1 < (q : Int) := by omega
          obtain ⟨y0, y1, y2, y3⟩ := (HO.out.fr F7.out fun _ _ => id).e4 HM.out.symm HP.out
          simp only at y0 y1 y2 y3
          clear HO6 HO7 F6 HZ
          go_wp2_with fail
          refine (KO.out _ F7.out).mono ?_
          rintro e w7 ⟨v, rfl, A7, c7, rfl, ho7, hf7, _⟩
          obtain ⟨n7, hn7⟩ : ∃ n, n = l1.length := ⟨_, rfl⟩
          rw [← hn7] at ho7 ⊢
          have HN7 := Lib.hid hn7.symm
          have F8 := Lib.hid (F7.out.trans hf7)
          have HO7 := Lib.hid ho7
          have hn90 : n7 ≤ 90 := by
            have h1 : l1.length ≤ (prefsT L).length := by
              rw [HL1.out]
              unfold overT
              rw [List.length_reverse]
              exact List.length_filter_le _ _
            have := HR.out.row.many
            omega
          clear ho7 hf7 hn7 y0 y1 y2 y3 F7 hFW
          go_wp2_with fail
          go_loopw [13, 14] (fun vf vk wr => ∃ (k : Nat) (f : Bool), k ≤ n7 ∧ vf = .bool f ∧ vk = .int .i64 (k : Int) ∧ FndP P l1 k f ∧ Fr N0 w7 wr) (fun _ vk _ => n7 + 1 - (intOf vk).toNat)
          case atStart => exact ⟨0, false, Nat.zero_le _, rfl, rfl, by unfold FndP; simp, Fr.refl _ _⟩
          case round =>
            obtain ⟨i, f, hi, rfl, rfl, hfd, hF⟩ := hrel
            have HFD := Lib.hid hfd
            have HFW := Lib.hid hF
            have F9 := Lib.hid (F8.out.trans hF)
            have HO9 := Lib.hid (HO7.out.fr hF fun _ _ => id)
            clear hfd hF
            by_cases hin : i < n7
            · have hiI : (i : Int) < (n7 : Int) := by omega
              obtain ⟨u, hu⟩ : ∃ u, l1[i]? = some u := ⟨_, List.getElem?_eq_getElem (by have := HN7.out; omega)⟩
              have HU := Lib.hid hu
              obtain ⟨g7, rfl⟩ := HO9.out.some_ (by omega)
              obtain ⟨y0, y1, y2, y3⟩ := (HO.out.fr F9.out fun _ _ => id).e4 HM.out.symm HP.out
              obtain ⟨x0, x1, x2, x3⟩ := HO9.out.e4 HN7.out hu
              have E := fun W => eql_px u ⟨⟨s, h1, l2⟩, b⟩ W
              have EG := fun X Y W => guard_px .eql X Y u ⟨⟨s, h1, l2⟩, b⟩ W
              obtain ⟨d, hd⟩ : ∃ d, d = decide (u = ⟨⟨s, h1, l2⟩, b⟩) := ⟨_, rfl⟩
              rw [← hd] at E
              have HD := Lib.hid (show FndP P l1 (i + 1) (f || d) by
                have h0 := HFD.out
                unfold FndP at h0 ⊢
                rw [take_mem hu, Bool.or_eq_true, h0, hd, decide_eq_true_eq, HPP.out]
                exact or_congr Iff.rfl ⟨Eq.symm, Eq.symm⟩)
              clear hu hd
              obtain ⟨⟨us, uh, ul⟩, um⟩ := u
              unfold pxV at E EG
              simp only at y0 y1 y2 y3 x0 x1 x2 x3 E EG
              go_wp2_with fail
              go_cut [13] (fun v wx => v = .bool (f || d) ∧ Fr N0 wr wx)
              case first =>
                cases f
                all_goals
                  go_region
                  go_wp2_with fail
                  go_meet
                  exact ⟨rfl, (Fr.refl N0 _).drew⟩
              case rest =>
                obtain ⟨rfl, hfx⟩ := hcut
                have HFX := Lib.hid hfx
                have F10 := Lib.hid (F9.out.trans hfx)
                have HO10 := Lib.hid (HO9.out.fr hfx fun _ _ => id)
                clear hfx y0 y1 y2 y3 x0 x1 x2 x3 E EG
                generalize (f || d) = f' at *
                have hcase : i = 0 ∨ ∃ k, i = k + 1 := by cases i with
                  | zero => exact .inl rfl
                  | succ k => exact .inr ⟨k, rfl⟩
                rcases hcase with rfl | ⟨k, rfl⟩
                · go_wp2_with fail
                  go_region
                  go_wp2_with fail
                  go_roundw
                  case rel => exact ⟨0 + 1, f', by omega, rfl, by go_num, HD.out, HFW.out.trans (HFX.out.trans (Fr.refl N0 _).drew)⟩
                  case measure => (simp [intOf]; try omega)
                · obtain ⟨v, hv⟩ : ∃ u, l1[k]? = some u := ⟨_, List.getElem?_eq_getElem (by have := HN7.out; omega)⟩
                  have hbt : um < v.bits := over_step HR.out.row (a := ⟨s, h1, l2⟩) (HR.out.row.px HPM.out).1.1 (k := k) (by rw [← HL1.out]; exact hv) (by rw [← HL1.out]; exact HU.out)
                  obtain ⟨_, _, _, x3⟩ := HO10.out.e4 HN7.out HU.out
                  obtain ⟨_, _, _, y3⟩ := HO10.out.e4 HN7.out hv
                  obtain ⟨⟨vs, vh, vl⟩, vm⟩ := v
                  simp only at x3 y3 hbt
                  have hbn : decide (vm ≤ um) = false := decide_eq_false (by omega)
                  have hkI : (k : Int) < (n7 : Int) := by omega
                  have hkI1 : (k : Int) + 1 < (n7 : Int) := by omega
                  have hkw : IntKind.i64.wrap ((k : Int) + 1 - 1) = (k : Int) := by rw [Int.add_sub_cancel]; exact IntWalk.i64_in _ (by omega)
                  have hk0 : 0 ≤ (k : Int) := by omega
                  have hk1 : (0 : Int) < (k : Int) + 1 := by omega
                  have hkd : decide ((0 : Int) < (k : Int) + 1) = true := decide_eq_true hk1
                  have hkn : ((k : Int) + 1).toNat = k + 1 := by omega
                  clear hv
                  go_wp2_with fail
                  go_region
                  clear hkw hkn
                  go_wp2_with fail
                  go_roundw
                  case rel => exact ⟨k + 1 + 1, f', by omega, rfl, by go_num, HD.out, HFW.out.trans (HFX.out.trans (Fr.refl N0 _).drew)⟩
                  case measure => (simp [intOf]; try omega)
            · have hiI : ¬ (i : Int) < (n7 : Int) := by omega
              obtain rfl : f = true := by
                have h0 := HFD.out
                unfold FndP at h0
                rw [List.take_of_length_le (by have := HN7.out; omega), HL1.out, HPP.out] at h0
                exact h0.2 (over_self HR.out.row HPM.out)
              have HSK2 := Lib.hid (show (t : Int) + (q : Int) = ((sumK L (j + 1) : Nat) : Int) by rw [HSK.out]; omega)
              clear HO9 HFW HFD
              go_wp2_with fail
              go_roundw
              case rel => exact ⟨j + 1, by omega, by rw [HSK2.out], by go_num, HR.out.n0 F9.out, HO.out.fr F9.out fun _ _ => id⟩
              case measure => (simp [intOf]; try omega)
    · obtain rfl : j = m := by omega
      have hjI : ¬ (j : Int) < (j : Int) := by omega
      have hsum := sumK_all HR.out.row (j := j) (by have := HM.out; omega)
      rw [hsum]
      have kc := HR.out.count
      have hle := len_le HR.out.row
      generalize L.length = z at *
      clear hsum hR hO
      have hmI : (j : Int) ≤ 90 := by omega
      go_wp2_with fail
      refine kc.mono ?_
      rintro e w4 ⟨rfl, hf⟩
      have F4 := Lib.hid (HF1.out.trans (HR.out.fr.trans hf))
      clear hf kc
      go_wp2_with fail
      go_ret
      exact ⟨rfl, F4.out⟩
theorem row_walk (W : World) (_hS : W.ShapedOpen Tryd.prog) (ht : Dst W) (A : Option Addr) (n c : Nat) (rd : Rd Tryd.prog W 30 [.slice A n c]) (_s : n * Tryd.prog.bytesOf 59 ≤ 140737488351232) :
    Calls Tryd.prog 5 #[.slice A n c] W fun e w' => e = .returned (.bool true) ∧ Below W.heap.size W w' := by
  obtain ⟨l, hl, hs, _⟩ := steps_in rd
  exact (row_any ht A n c l hs hl).mono fun e w' ⟨he, hf⟩ => ⟨he, hf.below (Nat.le_refl _) fun _ _ h => h.elim⟩
end Go.Proofs.YtnklbeigikcfkaaDoor
