/- take and Cancel. -/
import Derived.Test.YtgmeebpgncenmaaDel
import Derived.Test.YtgmeebpgncenmaaSmall
namespace Go.Proofs.Ytgmeebpgncenmaa
open Go.RowKit

theorem first_ix : ∀ {l : List Tm} {t : Tm}, t ∈ l → ∃ p : Nat, l[p]? = some t ∧ ∀ j u, j < p → l[j]? = some u → u ≠ t
  | [], t, h => by cases h
  | x :: r, t, h => by
    by_cases e : x = t
    · exact ⟨0, by simp [e], fun j u hj => absurd hj (Nat.not_lt_zero _)⟩
    · have hm : t ∈ r := by
        rcases List.mem_cons.1 h with h1 | h1
        · exact absurd h1.symm e
        · exact h1
      obtain ⟨p, hp, hb⟩ := first_ix hm
      refine ⟨p + 1, by simpa using hp, fun j u hj hu => ?_⟩
      cases j with
      | zero => simp at hu; subst hu; exact e
      | succ j => exact hb j u (by omega) (by simpa using hu)
theorem delete_any {w : World} {A : Option Addr} {c gt : Nat} {l : List Tm} (t : Tm) (ho : Own w 55 3 A l.length c (tcs l)) (hB : Blk w gt 55 t.cs.toArray) (hgt : A ≠ some ⟨gt, 0, none⟩) (hl : l.length < 1152921504606846976) :
    Calls Try.prog 35 #[.slice A l.length c, .func (.func 36) #[] #[.pointer (some ⟨gt, 0, none⟩)]] w (Deld w A c t l) := by
  by_cases h : t ∈ l
  · obtain ⟨p, hp, hb⟩ := first_ix h
    have hlt := (List.getElem?_eq_some_iff.1 hp).1
    obtain ⟨g, rfl⟩ := ho.some_ (by omega)
    exact delete_some t ho hB (fun e => hgt (by rw [e])) hl p hlt hp hb
  · exact delete_none t ho hB hl h

/-- The places at which a timer may stand. -/
def slotT (t : Tm) (r : Nat) : Nat := if r = 0 then t.due % 16 else if r = 1 then 16 + t.due / 16 % 16 else 32 + t.due / 256 % 16
theorem slotT_lt (t : Tm) (r : Nat) : slotT t r < 48 := by unfold slotT; split <;> (try split) <;> omega
/-- The wheel while t is taken out; r rims have been looked through. -/
def Tak (w : World) (b m now added : Nat) (A0 : Nat → Option Addr) (X0 : Nat → List Tm) (L : List Tm) (t : Tm) (gt : Nat) (r : Nat) (w' : World) : Prop :=
  ∃ A c X, Wh w' b m now added A c X L ∧ (∀ i, i < 48 → X i = noT t (X0 i) ∨ (X i = X0 i ∧ ∀ q, q < r → i ≠ slotT t q)) ∧ (∀ i, i < 48 → A i ≠ some ⟨gt, 0, none⟩) ∧ Blk w' gt 55 t.cs.toArray ∧ gt ≠ b ∧ Fr (Wf b m A0) w w' ∧ ∀ i, Wf b m A i → Wf b m A0 i ∨ w.heap.size ≤ i
theorem noT_noT (t : Tm) (l : List Tm) : noT t (noT t l) = noT t l := by
  unfold noT
  rw [List.filter_filter]
  simp
theorem Tak.step {w W W5 : World} {b m now added : Nat} {A0 A : Nat → Option Addr} {c : Nat → Nat} {X0 X : Nat → List Tm} {L : List Tm} {t : Tm} {gt r : Nat} (h : Wh W b m now added A c X L)
    (hx : ∀ i, i < 48 → X i = noT t (X0 i) ∨ (X i = X0 i ∧ ∀ q, q < r → i ≠ slotT t q)) (ha : ∀ i, i < 48 → A i ≠ some ⟨gt, 0, none⟩) (hb : Blk W gt 55 t.cs.toArray) (hgb : gt ≠ b) (f : Fr (Wf b m A0) w W) (n : ∀ i, Wf b m A i → Wf b m A0 i ∨ w.heap.size ≤ i)
    {k : Nat} (hk : k = slotT t r) (ho : Own W5 55 3 (A k) (noT t (X k)).length (c k) (tcs (noT t (X k)))) (f5 : Fr (fun i => A k = some ⟨i, 0, none⟩) W W5) :
    Tak w b m now added A0 X0 L t gt (r + 1) (W5.setCell ⟨b, 2 + k, none⟩ (.slice (A k) (noT t (X k)).length (c k))) := by
  have hk48 : k < 48 := hk ▸ slotT_lt t r
  have hg : ∀ i, upd A k (A k) i = A i := fun i => by
    by_cases e : i = k
    · subst e; rw [upd_same]
    · rw [upd_other _ _ e]
  refine ⟨_, _, _, h.put hk48 f5 ho (fun g e => .inl e), ?_, fun i hi => by rw [hg]; exact ha i hi, ?_, hgb, (f.step f5 fun i hi => n i (.inr (.inr ⟨k, hk48, hi⟩))).setCell (.inl (.inl rfl)) _, ?_⟩
  · intro i hi
    by_cases e : i = k
    · subst e
      rw [upd_same]
      left
      rcases hx i hi with h1 | ⟨h1, _⟩
      · rw [h1, noT_noT]
      · rw [h1]
    · rw [upd_other _ _ e]
      rcases hx i hi with h1 | ⟨h1, h2⟩
      · exact .inl h1
      · refine .inr ⟨h1, fun q hq e2 => ?_⟩
        rcases Nat.lt_or_ge q r with h3 | h3
        · exact h2 q h3 e2
        · have : q = r := by omega
          subst this
          exact e (by rw [e2, hk])
  · exact (hb.fr f5 fun e => ha k hk48 e).far (p := ⟨b, 2 + k, none⟩) hgb _
  · rintro i (h1 | h1 | ⟨j, hj, e⟩)
    · exact n i (.inl h1)
    · exact n i (.inr (.inl h1))
    · rw [hg] at e
      exact n i (.inr (.inr ⟨j, hj, e⟩))
/-- Without t. -/
theorem St.without {X X' : Nat → List Tm} {L : List Tm} {now : Nat} {t : Tm} (h : St X L [] now now now) (hX : ∀ i, i < 48 → X' i = noT t (X i)) : St X' (noT t L) [] now now now := by
  have hm : ∀ {l : List Tm} {u : Tm}, u ∈ noT t l ↔ u ∈ l ∧ u ≠ t := fun {l u} => by simp [noT]
  refine ⟨?_, ?_, ?_, ?_, List.nodup_nil, nofun⟩
  · intro i hi u hu
    rw [hX i hi] at hu
    obtain ⟨h1, h2⟩ := hm.1 hu
    exact ⟨hm.2 ⟨(h.sub i hi u h1).1, h2⟩, (h.sub i hi u h1).2⟩
  · intro u hu
    obtain ⟨h1, h2⟩ := hm.1 hu
    rcases h.cov u h1 with h3 | ⟨i, hi, h3⟩
    · cases h3
    · exact .inr ⟨i, hi, by rw [hX i hi]; exact hm.2 ⟨h3, h2⟩⟩
  · intro i hi
    rw [hX i hi]
    exact (h.nd i hi).filter _
  · intro i j u hi hj h1 h2
    rw [hX i hi] at h1
    rw [hX j hj] at h2
    exact h.un i j u hi hj (hm.1 h1).1 (hm.1 h2).1
theorem slot_of_pl {n0 n1 n2 i : Nat} {t : Tm} (h : Pl n0 n1 n2 i t) : ∃ q, q < 3 ∧ i = slotT t q := by
  rcases h with ⟨a, b, _⟩ | ⟨a, b, c, _⟩ | ⟨a, b, c, _⟩
  · exact ⟨0, by omega, by unfold slotT; rw [if_pos rfl]; omega⟩
  · exact ⟨1, by omega, by unfold slotT; rw [if_neg (by omega), if_pos rfl]; omega⟩
  · exact ⟨2, by omega, by unfold slotT; rw [if_neg (by omega), if_neg (by omega)]; omega⟩
theorem Tak.all {w w' : World} {b m now added : Nat} {A0 : Nat → Option Addr} {X0 : Nat → List Tm} {L L' : List Tm} {t : Tm} {gt : Nat} (h : Tak w b m now added A0 X0 L' t gt 3 w') (s : St X0 L [] now now now) :
    ∃ A c X, Wh w' b m now added A c X L' ∧ (∀ i, i < 48 → X i = noT t (X0 i)) ∧ Fr (Wf b m A0) w w' ∧ ∀ i, Wf b m A i → Wf b m A0 i ∨ w.heap.size ≤ i := by
  obtain ⟨A, c, X, h1, h2, h3, h4, h5, h6, h7⟩ := h
  refine ⟨A, c, X, h1, fun i hi => ?_, h6, h7⟩
  rcases h2 i hi with h8 | ⟨h8, h9⟩
  · exact h8
  · rw [h8]
    refine (noT_all fun hm => ?_).symm
    obtain ⟨q, hq, e⟩ := slot_of_pl (s.sub i hi t hm).2
    exact h9 q hq e

/-- What a wheel is without a timer. -/
def Taken (w : World) (b m now added : Nat) (A : Nat → Option Addr) (L : List Tm) (t : Tm) (w' : World) : Prop :=
  ∃ A' c' X', Wh w' b m now added A' c' X' (noT t L) ∧ St X' (noT t L) [] now now now ∧ Fr (Wf b m A) w w' ∧ ∀ i, Wf b m A' i → Wf b m A i ∨ w.heap.size ≤ i
def TakenE (w : World) (b m now added : Nat) (A : Nat → Option Addr) (L : List Tm) (t : Tm) (e : Ending) (w' : World) : Prop := e = .returned (.tuple #[]) ∧ Taken w b m now added A L t w'

theorem noT_ids {L : List Tm} (hid : L.Pairwise fun x y => x.id ≠ y.id) {t : Tm} (ht : t ∈ L) : (L.filter fun s => decide (s.id ≠ t.id)) = noT t L := by
  unfold noT
  apply List.filter_congr
  intro s hs
  rw [Bool.eq_iff_iff]
  simp only [decide_eq_true_eq, Bool.not_eq_true', decide_eq_false_iff_not]
  constructor
  · rintro h rfl; exact h rfl
  · intro h e
    refine h ?_
    obtain ⟨i, hi, rfl⟩ := List.mem_iff_getElem.1 hs
    obtain ⟨j, hj, rfl⟩ := List.mem_iff_getElem.1 ht
    rw [List.pairwise_iff_getElem] at hid
    rcases Nat.lt_trichotomy i j with hij | rfl | hij
    · exact absurd e (hid i j hi hj hij)
    · rfl
    · exact absurd e.symm (hid j i hj hi hij)

set_option maxRecDepth 100000 in
set_option maxHeartbeats 3200000 in
theorem take_any (b m now added : Nat) (A : Nat → Option Addr) (c : Nat → Nat) (X : Nat → List Tm) (L : List Tm) (w : World) (h : Wh w b m now added A c X L) (hst : St X L [] now now now) (t : Tm) (ht : t ∈ L) (hL : L.length ≤ 1000) (hd : t.due < 4611686018427387904) :
    Calls Try.prog 31 #[.pointer (some ⟨b, 0, none⟩), .agg #[.int .i64 t.id, .int .i64 (t.due : Int), .int .i64 (t.num : Int)]] w (TakenE w b m now added A L t) := by
  obtain ⟨ix, hix⟩ := List.getElem?_of_mem ht
  have hW1 := h.fr0 ((Fr.refl _ w).alloc (.cells #[.int .i64 t.id, .int .i64 (t.due : Int), .int .i64 (t.num : Int)] 55))
  have hf1 : Fr (Wf b m A) w (w.alloc (.cells #[.int .i64 t.id, .int .i64 (t.due : Int), .int .i64 (t.num : Int)] 55)) := (Fr.refl _ w).alloc _
  have hB1 : Blk (w.alloc (.cells #[.int .i64 t.id, .int .i64 (t.due : Int), .int .i64 (t.num : Int)] 55)) w.heap.size 55 t.cs.toArray := Blk.new _ _ _
  have hWg : ∀ i, Wf b m A i → i ≠ w.heap.size := fun i hi => Nat.ne_of_lt (h.in_ hi)
  have HX := Lib.hid (show ∀ i, i < 48 → (X i).length ≤ 1000 from fun i hi => Nat.le_trans (St.len hst i hi) hL)
  have HST := Lib.hid hst
  have HIX := Lib.hid hix
  have HT := Lib.hid ht
  have HWG := Lib.hid hWg
  have HID := Lib.hid h.ids
  clear hst hix ht hWg h hL
  go_enter Try.func31, Try.ntmps31
  go_wp2_with fail
  generalize w.alloc (.cells #[.int .i64 t.id, .int .i64 (t.due : Int), .int .i64 (t.num : Int)] 55) = W at *
  generalize hgtd : w.heap.size = gt at *
  have HGT := Lib.hid hgtd
  clear hgtd
  have k0 := hB1.cell 0
  simp only [Tm.cs, List.getElem?_toArray, List.getElem?_cons_zero] at k0
  have hgl := hB1.lt
  have hlb := hW1.lt
  have c50 := hW1.cmap
  have hix2 : (L.map fun t => (t.id, t))[ix]? = some (t.id, t) := by rw [List.getElem?_map, HIX.out]; rfl
  obtain ⟨w5, hrun, hm5, f5, s5⟩ := (hW1.map.drewN 1).drop_some (ty := 0) keyed3 Try.underlying46 hix2
  have hrun' : (Builtin.delete_ #[46, 3] 0 #[.map (some m), .int .i64 t.id]).run Try.prog W.drew = .ok (.tuple #[]) w5 := hrun
  have hm5' : MapIs Try.prog 3 kfI Tm.v w5 m ((noT t L).map fun t => (t.id, t)) := by
    rw [strike HID.out HIX.out, noT_ids HID.out HT.out] at hm5
    exact hm5
  have hW5 := Wh.remap (hW1.fr0 ((Fr.refl _ W).drewN 1)) f5 hm5'
  have hB5 : Blk w5 gt 55 t.cs.toArray := Blk.fr hB1.drew f5 (fun e => HWG.out m (.inr (.inl rfl)) e.symm)
  have hf5 : Fr (Wf b m A) w w5 := (hf1.drewN 1).step f5 fun _ hi => .inl (.inr (.inl hi))
  have HTK : Hid (Tak w b m now added A X (noT t L) t gt 0 w5) := Lib.hid ⟨A, c, X, hW5, fun i _ => .inr ⟨rfl, fun q hq => absurd hq (Nat.not_lt_zero _)⟩, fun i hi e => HWG.out gt (.inr (.inr ⟨i, hi, e⟩)) rfl, hB5, fun e => HWG.out b (.inl rfl) e.symm, hf5, fun i hi => .inl hi⟩
  clear hrun hm5 hix2 hm5' hW5 hB5 hf5 hW1 hf1 hB1 s5 f5
  go_region
  clear hrun' k0 c50 hlb hgl
  go_wp2_with fail
  go_loopw [12] (fun i wr => ∃ r : Nat, r ≤ 3 ∧ i = .int .i64 (r : Int) ∧ Tak w b m now added A X (noT t L) t gt r wr) (fun i _ => 3 - (intOf i).toNat)
  case atStart => exact ⟨0, by omega, rfl, HTK.out⟩
  case round =>
    obtain ⟨r, hr, rfl, hM⟩ := hrel
    clear HTK
    have : r = 3 ∨ r = 0 ∨ r = 1 ∨ r = 2 := by omega
    rcases this with rfl | rfl | rfl | rfl
    · have HT3 := Lib.hid (hM.all HST.out)
      clear hM
      go_wp2_with fail
      go_end0
      obtain ⟨A3, c3, X3, h1, h2, h3, h4⟩ := HT3.out
      exact ⟨rfl, A3, c3, X3, h1, HST.out.without h2, h3, h4⟩
    · obtain ⟨A1, c1, X1, h1, hx1, ha1, hb1, hgb, f1, n1⟩ := hM
      have hlb := h1.lt
      have hgl := hb1.lt
      have k1 := hb1.cell 1
      simp only [Tm.cs, List.getElem?_toArray, List.getElem?_cons_zero, List.getElem?_cons_succ] at k1
      obtain ⟨k, hk⟩ : ∃ k, k = slotT t 0 := ⟨_, rfl⟩
      have hkk : 2 + k = 2 + t.due % 16 := by rw [hk]; unfold slotT; simp; try omega
      have hk48 : k < 48 := hk ▸ slotT_lt t 0
      have hlen : (X1 k).length ≤ 1000 := by
        rcases hx1 k hk48 with e | ⟨e, _⟩
        · rw [e]; exact Nat.le_trans (noT_le _ _) (HX.out k hk48)
        · rw [e]; exact HX.out k hk48
      have cr := h1.crim k hk48
      have zr := h1.frozen (2 + k)
      have ho := h1.own k hk48
      rw [hkk] at cr zr
      have H1 := Lib.hid h1
      have HX1 := Lib.hid hx1
      have HA1 := Lib.hid ha1
      have HB1 := Lib.hid hb1
      have F1 := Lib.hid f1
      have N1 := Lib.hid n1
      have HK := Lib.hid hk
      have HKK := Lib.hid hkk
      have HO := Lib.hid ho
      clear h1 hx1 ha1 hb1 f1 n1 hk hkk ho
      go_wp2_with fail
      go_quiet ((go_at_call 25; first | exact Calls.quiet_of_same (left_same (span_0 _)) | exact quiet_add_same (left_same (span_0 _))))
      go_wp2_with fail
      refine (delete_any t (HO.out.fr (S := fun _ => False) (by repeat first | exact Fr.refl _ _ | refine Fr.drewN ?_ _ | refine Fr.alloc ?_ _) fun _ _ => id) (HB1.out.fr (S := fun _ => False) (by repeat first | exact Fr.refl _ _ | refine Fr.drewN ?_ _ | refine Fr.alloc ?_ _) id) (HA1.out k hk48) (by omega)).mono ?_
      rintro e w6 ⟨rfl, ho6, f6⟩
      have f6' : Fr (fun i => A1 k = some ⟨i, 0, none⟩) wr w6 := Fr.trans (by repeat first | exact Fr.refl _ _ | refine Fr.drewN ?_ _ | refine Fr.alloc ?_ _) f6
      have cr6 : w6.cell? ⟨b, 2 + t.due % 16, none⟩ = some (.slice (A1 k) (X1 k).length (c1 k)) := (f6'.cell hlb (fun e => H1.out.ba hk48 e rfl)).trans cr
      have zr6 : w6.frozen? ⟨b, 2 + t.due % 16, none⟩ = false := (f6'.frozen hlb (fun e => H1.out.ba hk48 e rfl)).trans zr
      have hfin := Tak.step H1.out HX1.out HA1.out HB1.out hgb F1.out N1.out HK.out ho6 f6'
      rw [HKK.out] at hfin
      have HFIN := Lib.hid hfin
      clear hfin ho6 f6 f6' cr zr k1 hgl
      go_wp2_with fail
      go_roundw
      case rel => exact ⟨0 + 1, by omega, by go_num, HFIN.out⟩
      case measure => simp [intOf]
    · obtain ⟨A1, c1, X1, h1, hx1, ha1, hb1, hgb, f1, n1⟩ := hM
      have hlb := h1.lt
      have hgl := hb1.lt
      have k1 := hb1.cell 1
      simp only [Tm.cs, List.getElem?_toArray, List.getElem?_cons_zero, List.getElem?_cons_succ] at k1
      obtain ⟨k, hk⟩ : ∃ k, k = slotT t 1 := ⟨_, rfl⟩
      have hkk : 2 + k = 18 + t.due / 16 % 16 := by rw [hk]; unfold slotT; simp; try omega
      have hk48 : k < 48 := hk ▸ slotT_lt t 1
      have hlen : (X1 k).length ≤ 1000 := by
        rcases hx1 k hk48 with e | ⟨e, _⟩
        · rw [e]; exact Nat.le_trans (noT_le _ _) (HX.out k hk48)
        · rw [e]; exact HX.out k hk48
      have cr := h1.crim k hk48
      have zr := h1.frozen (2 + k)
      have ho := h1.own k hk48
      rw [hkk] at cr zr
      have H1 := Lib.hid h1
      have HX1 := Lib.hid hx1
      have HA1 := Lib.hid ha1
      have HB1 := Lib.hid hb1
      have F1 := Lib.hid f1
      have N1 := Lib.hid n1
      have HK := Lib.hid hk
      have HKK := Lib.hid hkk
      have HO := Lib.hid ho
      clear h1 hx1 ha1 hb1 f1 n1 hk hkk ho
      go_wp2_with fail
      go_quiet ((go_at_call 25; first | exact Calls.quiet_of_same (left_same (span_1 _)) | exact quiet_add_same (left_same (span_1 _))))
      go_wp2_with fail
      refine (delete_any t (HO.out.fr (S := fun _ => False) (by repeat first | exact Fr.refl _ _ | refine Fr.drewN ?_ _ | refine Fr.alloc ?_ _) fun _ _ => id) (HB1.out.fr (S := fun _ => False) (by repeat first | exact Fr.refl _ _ | refine Fr.drewN ?_ _ | refine Fr.alloc ?_ _) id) (HA1.out k hk48) (by omega)).mono ?_
      rintro e w6 ⟨rfl, ho6, f6⟩
      have f6' : Fr (fun i => A1 k = some ⟨i, 0, none⟩) wr w6 := Fr.trans (by repeat first | exact Fr.refl _ _ | refine Fr.drewN ?_ _ | refine Fr.alloc ?_ _) f6
      have cr6 : w6.cell? ⟨b, 18 + t.due / 16 % 16, none⟩ = some (.slice (A1 k) (X1 k).length (c1 k)) := (f6'.cell hlb (fun e => H1.out.ba hk48 e rfl)).trans cr
      have zr6 : w6.frozen? ⟨b, 18 + t.due / 16 % 16, none⟩ = false := (f6'.frozen hlb (fun e => H1.out.ba hk48 e rfl)).trans zr
      have hfin := Tak.step H1.out HX1.out HA1.out HB1.out hgb F1.out N1.out HK.out ho6 f6'
      rw [HKK.out] at hfin
      have HFIN := Lib.hid hfin
      clear hfin ho6 f6 f6' cr zr k1 hgl
      go_wp2_with fail
      go_roundw
      case rel => exact ⟨1 + 1, by omega, by go_num, HFIN.out⟩
      case measure => simp [intOf]
    · obtain ⟨A1, c1, X1, h1, hx1, ha1, hb1, hgb, f1, n1⟩ := hM
      have hlb := h1.lt
      have hgl := hb1.lt
      have k1 := hb1.cell 1
      simp only [Tm.cs, List.getElem?_toArray, List.getElem?_cons_zero, List.getElem?_cons_succ] at k1
      obtain ⟨k, hk⟩ : ∃ k, k = slotT t 2 := ⟨_, rfl⟩
      have hkk : 2 + k = 34 + t.due / 256 % 16 := by rw [hk]; unfold slotT; simp; try omega
      have hk48 : k < 48 := hk ▸ slotT_lt t 2
      have hlen : (X1 k).length ≤ 1000 := by
        rcases hx1 k hk48 with e | ⟨e, _⟩
        · rw [e]; exact Nat.le_trans (noT_le _ _) (HX.out k hk48)
        · rw [e]; exact HX.out k hk48
      have cr := h1.crim k hk48
      have zr := h1.frozen (2 + k)
      have ho := h1.own k hk48
      rw [hkk] at cr zr
      have H1 := Lib.hid h1
      have HX1 := Lib.hid hx1
      have HA1 := Lib.hid ha1
      have HB1 := Lib.hid hb1
      have F1 := Lib.hid f1
      have N1 := Lib.hid n1
      have HK := Lib.hid hk
      have HKK := Lib.hid hkk
      have HO := Lib.hid ho
      clear h1 hx1 ha1 hb1 f1 n1 hk hkk ho
      go_wp2_with fail
      go_quiet ((go_at_call 25; first | exact Calls.quiet_of_same (left_same (span_2 _)) | exact quiet_add_same (left_same (span_2 _))))
      go_wp2_with fail
      refine (delete_any t (HO.out.fr (S := fun _ => False) (by repeat first | exact Fr.refl _ _ | refine Fr.drewN ?_ _ | refine Fr.alloc ?_ _) fun _ _ => id) (HB1.out.fr (S := fun _ => False) (by repeat first | exact Fr.refl _ _ | refine Fr.drewN ?_ _ | refine Fr.alloc ?_ _) id) (HA1.out k hk48) (by omega)).mono ?_
      rintro e w6 ⟨rfl, ho6, f6⟩
      have f6' : Fr (fun i => A1 k = some ⟨i, 0, none⟩) wr w6 := Fr.trans (by repeat first | exact Fr.refl _ _ | refine Fr.drewN ?_ _ | refine Fr.alloc ?_ _) f6
      have cr6 : w6.cell? ⟨b, 34 + t.due / 256 % 16, none⟩ = some (.slice (A1 k) (X1 k).length (c1 k)) := (f6'.cell hlb (fun e => H1.out.ba hk48 e rfl)).trans cr
      have zr6 : w6.frozen? ⟨b, 34 + t.due / 256 % 16, none⟩ = false := (f6'.frozen hlb (fun e => H1.out.ba hk48 e rfl)).trans zr
      have hfin := Tak.step H1.out HX1.out HA1.out HB1.out hgb F1.out N1.out HK.out ho6 f6'
      rw [HKK.out] at hfin
      have HFIN := Lib.hid hfin
      clear hfin ho6 f6 f6' cr zr k1 hgl
      go_wp2_with fail
      go_roundw
      case rel => exact ⟨2 + 1, by omega, by go_num, HFIN.out⟩
      case measure => simp [intOf]
end Go.Proofs.Ytgmeebpgncenmaa
