/- The document's Split, decimal and group of texts. The document's decimal and group. The document's six: groups, and where a :: stands among them. The document's six at a text with a :: in it. -/
import Derived.Test.YtcameghlkplgfaaGreatDoorQb
import Derived.Test.YtcameghlkplgfaaGreatDoorCr
namespace Go.Proofs.YtcameghlkplgfaaGreatDoor
open Go.Proofs Go.Shelf Go.RowKit
def strv (t : List UInt8) : Value := .string (bA t)
/-- A slice of texts of the call's own, made since w. -/
def Sx (w wr : World) (v : Value) (l : List (List UInt8)) : Prop :=
  ∃ A c, v = .slice A l.length c ∧ Own wr 9 1 A l.length c (l.map strv) ∧ (∀ g, A = some ⟨g, 0, none⟩ → w.heap.size ≤ g) ∧ Fr N0 w wr
theorem Sx.nil_ (w : World) : Sx w w (.slice none 0 0) [] := ⟨none, 0, rfl, Own.nil_ _ _ _, nofun, Fr.refl _ _⟩
theorem infoS : (Tryz.prog.info? 9).map (fun i => (i.zero, i.size, i.bytes)) = some (some (.string ByteArray.empty), 1, 16) := by kernel_rfl
theorem Sx.step {w wr w' : World} {A : Option Addr} {g' c' n : Nat} {x : List UInt8} {l : List (List UInt8)} {X : Value} (G1 : ∀ g, A = some ⟨g, 0, none⟩ → w.heap.size ≤ g) (F1 : Fr N0 w wr) (hn : l.length = n)
    (hO' : Own w' 9 1 (some ⟨g', 0, none⟩) (n + 1) c' (l.map strv ++ [X])) (hF' : Fr (fun i => A = some ⟨i, 0, none⟩) wr w') (hA' : A = some ⟨g', 0, none⟩ ∨ wr.heap.size ≤ g') (hX : X = strv x) :
    Sx w w' (.slice (some ⟨g', 0, none⟩) (n + 1) c') (l ++ [x]) := by
  subst hX
  refine ⟨some ⟨g', 0, none⟩, c', by rw [List.length_append, hn]; rfl, by rw [List.length_append, hn, List.map_append]; exact hO', ?_, F1.step hF' fun i hi => .inr (G1 i hi)⟩
  intro g e
  rcases hA' with h | h
  · exact G1 g (h.trans e)
  · injection e with e
    injection e with e
    rw [← e]
    exact Nat.le_trans F1.size h
theorem Sx.up {w w2 wr : World} {v : Value} {l : List (List UInt8)} (k : Sx w2 wr v l) (hF : Fr N0 w w2) : Sx w wr v l := by
  obtain ⟨A, c, h1, h2, h3, h4⟩ := k
  exact ⟨A, c, h1, h2, fun g e => Nat.le_trans hF.size (h3 g e), hF.trans h4⟩
theorem Sx.mk' {w wr : World} {A : Option Addr} {c n : Nat} {L l : List (List UInt8)} (hn : L.length = n) (hl : L = l) (hO : Own wr 9 1 A n c (L.map strv)) (hg : ∀ g, A = some ⟨g, 0, none⟩ → w.heap.size ≤ g) (hF : Fr N0 w wr) : Sx w wr (.slice A n c) l := by
  subst hl hn
  exact ⟨A, c, rfl, hO, hg, hF⟩
theorem own_str {w : World} {A : Option Addr} {n c : Nat} {bs : List (List UInt8)} (h : Own w 9 1 A n c (bs.map strv)) (hn : 0 < n) : ∃ g, A = some ⟨g, 0, none⟩ ∧ ∀ (i : Nat) (x : List UInt8), bs[i]? = some x → w.cell? ⟨g, i, none⟩ = some (.string (bA x)) := by
  rcases h.2 with ⟨_, h0, _⟩ | ⟨g, cur, e, hg, _, _, _, ht⟩
  · omega
  · refine ⟨g, e, fun i x hi => ?_⟩
    have hb : Blk w g 9 cur := hg
    have h1 : (cur.toList.take (n * 1))[i]? = some (strv x) := by rw [ht, List.getElem?_map, hi]; rfl
    rw [List.getElem?_take] at h1
    split at h1
    · rw [Array.getElem?_toList] at h1
      exact (hb.cell i).trans h1
    · cases h1
/-- How far a text is cut. -/
def SpR (c : UInt8) (l : List UInt8) (j f : Nat) (L : List (List UInt8)) : Prop :=
  (j ≤ l.length ∧ f ≤ j ∧ cutL c l = L ++ cutL c (l.drop f) ∧ c ∉ (l.drop f).take (j - f)) ∨ (j = l.length + 1 ∧ cutL c l = L)
theorem SpR.start (c : UInt8) (l : List UInt8) : SpR c l 0 0 [] := .inl ⟨Nat.zero_le _, Nat.le_refl _, rfl, by simp⟩
theorem SpR.hit {c : UInt8} {l : List UInt8} {j f : Nat} {L : List (List UInt8)} (h : SpR c l j f L) (hj : l[j]? = some c) : SpR c l (j + 1) (j + 1) (L ++ [(l.drop f).take (j - f)]) := by
  have hlt := (List.getElem?_eq_some_iff.1 hj).1
  rcases h with ⟨_, hf, h1, h2⟩ | ⟨h, _⟩
  · refine .inl ⟨by omega, Nat.le_refl _, ?_, by simp⟩
    have e : l.drop f = (l.drop f).take (j - f) ++ c :: l.drop (j + 1) := by
      have e1 : (l.drop f).drop (j - f) = l.drop j := by rw [List.drop_drop]; congr 1; omega
      have e2 : l.drop j = c :: l.drop (j + 1) := by
        obtain ⟨h3, h4⟩ := List.getElem?_eq_some_iff.1 hj
        rw [List.drop_eq_getElem_cons h3, h4]
      rw [← e2, ← e1, List.take_append_drop]
    have h5 := cutL_app (l.drop (j + 1)) h2
    rw [← e] at h5
    rw [h1, h5, List.append_assoc]
    rfl
  · omega
theorem SpR.miss {c : UInt8} {l : List UInt8} {j f : Nat} {L : List (List UInt8)} {b : UInt8} (h : SpR c l j f L) (hj : l[j]? = some b) (hb : b ≠ c) : SpR c l (j + 1) f L := by
  have hlt := (List.getElem?_eq_some_iff.1 hj).1
  rcases h with ⟨_, hf, h1, h2⟩ | ⟨h, _⟩
  · refine .inl ⟨by omega, by omega, h1, ?_⟩
    have hb' : (l.drop f)[j - f]? = some b := by rw [List.getElem?_drop, show f + (j - f) = j by omega]; exact hj
    obtain ⟨h3, h4⟩ := List.getElem?_eq_some_iff.1 hb'
    rw [show j + 1 - f = j - f + 1 by omega, List.take_succ_eq_append_getElem h3, h4]
    intro hm
    rcases List.mem_append.1 hm with hm | hm
    · exact h2 hm
    · exact hb (List.mem_singleton.1 hm).symm
  · omega
theorem SpR.last {c : UInt8} {l : List UInt8} {f : Nat} {L : List (List UInt8)} (h : SpR c l l.length f L) : SpR c l (l.length + 1) (l.length + 1) (L ++ [(l.drop f).take (l.length - f)]) := by
  rcases h with ⟨_, hf, h1, h2⟩ | ⟨h, _⟩
  · refine .inr ⟨rfl, ?_⟩
    have e : (l.drop f).take (l.length - f) = l.drop f := List.take_of_length_le (by rw [List.length_drop]; exact Nat.le_refl _)
    rw [e] at h2 ⊢
    rw [h1, cutL_one h2]
  · omega
theorem SpR.done {c : UInt8} {l : List UInt8} {f : Nat} {L : List (List UInt8)} (h : SpR c l (l.length + 1) f L) : cutL c l = L := by
  rcases h with ⟨h, _⟩ | ⟨_, h⟩
  · omega
  · exact h
theorem SpR.f_le {c : UInt8} {l : List UInt8} {j f : Nat} {L : List (List UInt8)} (h : SpR c l j f L) (hj : j ≤ l.length) : f ≤ j := by
  rcases h with ⟨_, h, _⟩ | ⟨h, _⟩
  · exact h
  · omega
theorem ext_bA (s : ByteArray) (f j : Nat) : s.extract f j = bA ((s.data.toList.drop f).take (j - f)) := by
  apply ByteArray.ext
  apply Array.toList_inj.1
  rw [Lib.extract_data]
  simp [bA]
theorem byte_at {s : ByteArray} {j : Nat} (h : j < s.size) : s.data.toList[j]? = some (s[j]'h) := by
  have h2 : j < s.data.toList.length := by rw [show s.data.toList.length = s.size from Lib.size_eq s]; exact h
  rw [List.getElem?_eq_getElem h2]
  rfl
section
variable {w : World}
set_option maxHeartbeats 3200000 in
set_option maxRecDepth 100000 in
theorem rspl (s : ByteArray) (c : UInt8) (hs : s.size ≤ 4294967296) : Calls Tryz.prog 37 #[.string s, .int .u8 (c.toNat : Int)] w fun e w' => ∃ v, e = .returned v ∧ Sx w w' v (cutL c s.data.toList) := by
  obtain ⟨i0, hi, hz0, hz1, hz2⟩ := info_parts infoS
  have hl : s.data.toList.length = s.size := Lib.size_eq s
  have HL := Lib.hid hl
  have HS := Lib.hid (SpR.start c s.data.toList)
  clear hl
  go_enter Tryz.func37, Tryz.ntmps37
  go_wp2_with fail
  go_loopw [5, 6, 7] (fun v f i wr => ∃ (j k : Nat) (L : List (List UInt8)), j ≤ s.size + 1 ∧ i = .int .i64 (j : Int) ∧ f = .int .i64 (k : Int) ∧ Sx w wr v L ∧ L.length ≤ j ∧ Hid (SpR c s.data.toList j k L)) (fun _ _ i _ => s.size + 2 - (intOf i).toNat)
  case atStart => exact ⟨0, 0, [], by omega, rfl, rfl, Sx.nil_ _, Nat.le_refl _, HS⟩
  case round =>
    obtain ⟨j, k, L, hj, rfl, rfl, ⟨A, ca, rfl, hO, hg, hF⟩, hLn, hR⟩ := hrel
    have O1 := Lib.hid hO
    have G1 := Lib.hid hg
    have F1 := Lib.hid hF
    clear hO hg hF HS
    by_cases hjn : j ≤ s.size
    · have hjI : (j : Int) ≤ (s.size : Int) := by omega
      have hkj : k ≤ j := hR.out.f_le (by rw [HL.out]; exact hjn)
      have HE := Lib.hid (ext_bA s k j)
      by_cases he : j = s.size
      · subst he
        have HX := Lib.hid (show SpR c s.data.toList (s.size + 1) (s.size + 1) (L ++ [(s.data.toList.drop k).take (s.size - k)]) by
          have := hR.out
          rw [← HL.out] at this ⊢
          exact this.last)
        obtain ⟨N, hN⟩ : ∃ N, N = L.length := ⟨_, rfl⟩
        rw [← hN] at O1 hLn ⊢
        have HN := Lib.hid hN.symm
        clear hR hN
        go_wp2_with (at_builtin; refine wpList_append1 wr rfl (.tmp 25) (.tmp 30) 63 rfl 9 i0 (.string ByteArray.empty) 1 16 Tryz.underlying63 hi hz0 hz1 hz2 rfl (by omega) A N ca _ rfl O1.out [.string (s.extract k s.size)] rfl rfl ?_ ?_ ?_ ?_)
        · simp [Value.oneCell']
        · omega
        · omega
        · intro g' c' w' hO' hF' hA'
          have HB := Lib.hid (Sx.step G1.out F1.out HN.out hO' hF' hA' (show _ = strv ((s.data.toList.drop k).take (s.size - k)) by rw [HE.out]; rfl))
          clear hO' hF' hA'
          go_wp2_with fail
          go_roundw
          case rel => exact ⟨s.size + 1, s.size + 1, _, by omega, by go_num, by go_num, HB.out, by rw [List.length_append, HN.out]; simp; omega, HX⟩
          case measure => first | (simp [intOf]; done) | (simp [intOf]; omega)
      · have hlt : j < s.size := by omega
        have hb := byte_at hlt
        have hjlt : (j : Int) < (s.size : Int) := by omega
        have hne : ((j : Int) == (s.size : Int)) = false := by simp; omega
        obtain ⟨N, hN⟩ : ∃ N, N = L.length := ⟨_, rfl⟩
        rw [← hN] at O1 hLn ⊢
        have HN := Lib.hid hN.symm
        clear hN
        by_cases hc : s[j]'hlt = c
        · rw [hc] at hb
          have HX := Lib.hid (hR.out.hit hb)
          have hq : (((s[j]'hlt).toNat : Int) == (c.toNat : Int)) = true := by rw [hc]; simp
          clear hR hb hc he
          go_wp2_with (at_builtin; refine wpList_append1 wr rfl (.tmp 25) (.tmp 30) 63 rfl 9 i0 (.string ByteArray.empty) 1 16 Tryz.underlying63 hi hz0 hz1 hz2 rfl (by omega) A N ca _ rfl O1.out [.string (s.extract k j)] rfl rfl ?_ ?_ ?_ ?_)
          · simp [Value.oneCell']
          · omega
          · omega
          · intro g' c' w' hO' hF' hA'
            have HB := Lib.hid (Sx.step G1.out F1.out HN.out hO' hF' hA' (show _ = strv ((s.data.toList.drop k).take (j - k)) by rw [HE.out]; rfl))
            clear hO' hF' hA'
            go_wp2_with fail
            go_roundw
            case rel => exact ⟨j + 1, j + 1, _, by omega, by go_num, by go_num, HB.out, by rw [List.length_append, HN.out]; simp; omega, HX⟩
            case measure => first | (simp [intOf]; done) | (simp [intOf]; omega)
        · have HX := Lib.hid (hR.out.miss hb hc)
          have hq : (((s[j]'hlt).toNat : Int) == (c.toNat : Int)) = false := by
            simp only [beq_eq_false_iff_ne, ne_eq]
            intro e
            exact hc (UInt8.toNat_inj.1 (by omega))
          clear hR hb hc he
          go_wp2_with fail
          go_roundw
          case rel => exact ⟨j + 1, k, L, by omega, by go_num, rfl, Sx.mk' HN.out rfl O1.out G1.out F1.out, by rw [HN.out]; omega, HX⟩
          case measure => first | (simp [intOf]; done) | (simp [intOf]; omega)
    · obtain rfl : j = s.size + 1 := by omega
      have HX := Lib.hid (show cutL c s.data.toList = L by
        have := hR.out
        rw [← HL.out] at this
        exact this.done)
      clear hR
      have hjI : ¬ (((s.size + 1 : Nat) : Int) ≤ (s.size : Int)) := by omega
      go_wp2_with fail
      go_ret
      exact ⟨_, rfl, Sx.mk' rfl HX.out.symm O1.out G1.out F1.out⟩
end
end Go.Proofs.YtcameghlkplgfaaGreatDoor
namespace Go.Proofs.YtcameghlkplgfaaGreatDoor
open Go.Proofs Go.Shelf Go.RowKit
def decR : Option Nat → Int
  | some v => if 255 < v then -1 else (v : Int)
  | none => -1
def decP (l : List UInt8) : Int := if l.length = 0 ∨ 3 < l.length ∨ (l.head? = some 48 ∧ 1 < l.length) then -1 else decR (decG 0 l)
def oI : Option Nat → Int
  | some u => (u : Int)
  | none => -1
theorem decP_oct (l : List UInt8) : decP l = oI (octP l) := by
  unfold decP octP num10
  by_cases h0 : l.length = 0 ∨ 3 < l.length
  · rw [if_pos (by omega), if_pos h0]
    rfl
  · rw [if_neg h0]
    by_cases h1 : l.head? = some 48 ∧ 1 < l.length
    · rw [if_pos (.inr (.inr h1))]
      cases decG 0 l with
      | none => rfl
      | some v =>
        simp only
        rw [if_pos (.inr ⟨h1.2, h1.1⟩)]
        rfl
    · rw [if_neg (fun h => h.elim (fun h => h0 (.inl h)) (fun h => h.elim (fun h => h0 (.inr h)) h1))]
      cases decG 0 l with
      | none => rfl
      | some v =>
        simp only [decR]
        by_cases h2 : 255 < v
        · rw [if_pos h2, if_pos (.inl h2)]
          rfl
        · rw [if_neg h2, if_neg (fun h => h.elim h2 (fun h => h1 ⟨h.2, h.1⟩))]
          rfl
theorem drop_at {s : ByteArray} {j : Nat} (h : j < s.size) : s.data.toList.drop j = (s[j]'h) :: s.data.toList.drop (j + 1) := by
  obtain ⟨h1, h2⟩ := List.getElem?_eq_some_iff.1 (byte_at h)
  rw [List.drop_eq_getElem_cons h1, h2]
theorem hexD_is : ∀ c, c < 256 → hexD c = if 48 ≤ c ∧ c ≤ 57 then some (c - 48) else if 97 ≤ c ∧ c ≤ 102 then some (c - 87) else if 65 ≤ c ∧ c ≤ 70 then some (c - 55) else none := by decide +kernel
section
variable {w : World}
set_option maxHeartbeats 3200000 in
set_option maxRecDepth 100000 in
theorem rdec (s : ByteArray) : Calls Tryz.prog 38 #[.string s] w fun e w' => e = .returned (.int .i64 (oI (octP s.data.toList))) ∧ w = w' := by
  rw [← decP_oct]
  have hlen : s.data.toList.length = s.size := Lib.size_eq s
  unfold decP
  rw [hlen]
  by_cases h0 : s.size = 0
  · rw [if_pos (.inl h0)]
    obtain rfl := empty_of h0
    go_enter Tryz.func38, Tryz.ntmps38
    go_wp2_with fail
    go_ret
    exact ⟨rfl, rfl⟩
  · have hemp := nempty_of h0
    by_cases h3 : 3 < s.size
    · rw [if_pos (.inr (.inl h3))]
      have hi : (3 : Int) < (s.size : Int) := by omega
      go_enter Tryz.func38, Tryz.ntmps38
      go_wp2_with fail
      go_ret
      exact ⟨rfl, rfl⟩
    · have hp : 0 < s.size := by omega
      have hpI : (0 : Int) < (s.size : Int) := by omega
      have hd : decide (3 < (s.size : Int)) = false := decide_eq_false (by omega)
      have hH := head_of hp
      by_cases hz : (s[0]'hp).toNat = 48 ∧ 1 < s.size
      · have hq : s[0]'hp = 48 := UInt8.toNat_inj.1 hz.1
        rw [if_pos (.inr (.inr ⟨by rw [hH, hq], hz.2⟩))]
        have e1 : (((s[0]'hp).toNat : Int) == 48) = true := by simp [hq]
        have e2 : (1 : Int) < (s.size : Int) := by omega
        clear hH hz hq
        go_enter Tryz.func38, Tryz.ntmps38
        go_wp2_with fail
        go_ret
        exact ⟨rfl, rfl⟩
      · have hcond : ¬ (s.size = 0 ∨ 3 < s.size ∨ (s.data.toList.head? = some 48 ∧ 1 < s.size)) := by
          rintro (h | h | ⟨h, h'⟩)
          · exact h0 h
          · exact h3 h
          · rw [hH] at h
            injection h with h
            exact hz ⟨by rw [h]; rfl, h'⟩
        rw [if_neg hcond]
        have hcs : (((s[0]'hp).toNat : Int) == 48) = false ∨ ((((s[0]'hp).toNat : Int) == 48) = true ∧ decide (1 < (s.size : Int)) = false) := by
          by_cases e : (s[0]'hp).toNat = 48
          · exact .inr ⟨by simp [e], decide_eq_false (by omega)⟩
          · exact .inl (by simp; omega)
        obtain ⟨G, hG⟩ : ∃ G, G = decG 0 s.data.toList := ⟨_, rfl⟩
        rw [← hG]
        obtain ⟨r, hr⟩ : ∃ r : Int, r = decR G := ⟨_, rfl⟩
        rw [← hr]
        have HR := Lib.hid hr
        have HG := Lib.hid hG
        clear hr
        have HL := Lib.hid hlen
        clear hH hz hcond hG hlen
        rcases hcs with hcs | ⟨hcs, hcs2⟩
        all_goals
          go_enter Tryz.func38, Tryz.ntmps38
          go_wp2_with fail
          go_loop [3, 4] (fun n i => ∃ j x : Nat, j ≤ s.size ∧ i = .int .i64 (j : Int) ∧ n = .int .i64 (x : Int) ∧ x < 10 ^ j ∧ Hid (G = decG x (s.data.toList.drop j))) (fun _ i => s.size + 1 - (intOf i).toNat)
          case atStart => exact ⟨0, 0, by omega, rfl, rfl, by omega, HG⟩
          case round =>
            obtain ⟨j, x, hj, rfl, rfl, hx, hR⟩ := hrel
            have hx3 : x < 1000 := by
              have := Nat.pow_le_pow_right (n := 10) (by omega) (show j ≤ 3 by omega)
              omega
            by_cases hjs : j < s.size
            · have hjI : (j : Int) < (s.size : Int) := by omega
              have hst := hR.out
              rw [drop_at hjs, decG] at hst
              have HST := Lib.hid hst
              have HXX := Lib.hid (show ∀ d, d < 10 → x * 10 + d < 10 ^ (j + 1) from fun d hd => by rw [Nat.pow_succ]; omega)
              clear hst hR hx
              by_cases hdg : 48 ≤ (s[j]'hjs).toNat ∧ (s[j]'hjs).toNat ≤ 57
              · have HD := Lib.hid (HST.out.trans (if_pos hdg))
                obtain ⟨d1, d2⟩ := hdg
                go_wp2_with fail
                go_round
                case rel => exact ⟨j + 1, x * 10 + ((s[j]'hjs).toNat - 48), by omega, by go_num, by go_num, HXX.out _ (by omega), HD⟩
                case measure => simp [intOf]; omega
              · have HD := Lib.hid (HST.out.trans (if_neg hdg))
                have hor : (s[j]'hjs).toNat < 48 ∨ (¬ (s[j]'hjs).toNat < 48 ∧ 57 < (s[j]'hjs).toNat) := by omega
                clear hdg
                rcases hor with d1 | ⟨d1, d2⟩
                all_goals
                  go_wp2_with fail
                  go_ret
                  exact ⟨ret_eq (by rw [HR.out, HD.out]; rfl), rfl⟩
            · obtain rfl : j = s.size := by omega
              have HD := Lib.hid (show G = some x by
                have := hR.out
                rw [List.drop_of_length_le (by rw [HL.out]; exact Nat.le_refl _)] at this
                exact this)
              clear hR hx
              by_cases hb : 255 < x
              · have hbI : (255 : Int) < (x : Int) := by omega
                go_wp2_with fail
                go_ret
                exact ⟨ret_eq (by rw [HR.out, HD.out]; simp [decR, hb]), rfl⟩
              · have hbI : ¬ ((255 : Int) < (x : Int)) := by omega
                go_wp2_with fail
                go_ret
                exact ⟨ret_eq (by rw [HR.out, HD.out]; simp [decR, hb]), rfl⟩
set_option maxHeartbeats 3200000 in
set_option maxRecDepth 100000 in
theorem rgrp (s : ByteArray) : Calls Tryz.prog 61 #[.string s] w fun e w' => e = .returned (.int .i64 (oI (num16 s.data.toList))) ∧ w = w' := by
  have hlen : s.data.toList.length = s.size := Lib.size_eq s
  unfold num16
  rw [hlen]
  by_cases h0 : s.size = 0
  · rw [if_pos (.inl h0)]
    obtain rfl := empty_of h0
    go_enter Tryz.func61, Tryz.ntmps61
    go_wp2_with fail
    go_ret
    exact ⟨rfl, rfl⟩
  · have hemp := nempty_of h0
    by_cases h3 : 4 < s.size
    · rw [if_pos (.inr h3)]
      have hi : (4 : Int) < (s.size : Int) := by omega
      go_enter Tryz.func61, Tryz.ntmps61
      go_wp2_with fail
      go_ret
      exact ⟨rfl, rfl⟩
    · rw [if_neg (fun h => h.elim h0 h3)]
      have hp : 0 < s.size := by omega
      have hpI : (0 : Int) < (s.size : Int) := by omega
      have hd : decide (4 < (s.size : Int)) = false := decide_eq_false (by omega)
      obtain ⟨G, hG⟩ : ∃ G, G = hexG 0 s.data.toList := ⟨_, rfl⟩
      rw [← hG]
      obtain ⟨r, hr⟩ : ∃ r : Int, r = oI G := ⟨_, rfl⟩
      rw [← hr]
      have HR := Lib.hid hr
      have HG := Lib.hid hG
      have HL := Lib.hid hlen
      clear hr hG hlen
      go_enter Tryz.func61, Tryz.ntmps61
      go_wp2_with fail
      go_loop [3, 4] (fun n i => ∃ j x : Nat, j ≤ s.size ∧ i = .int .i64 (j : Int) ∧ n = .int .i64 (x : Int) ∧ x < 16 ^ j ∧ Hid (G = hexG x (s.data.toList.drop j))) (fun _ i => s.size + 1 - (intOf i).toNat)
      case atStart => exact ⟨0, 0, by omega, rfl, rfl, by omega, HG⟩
      case round =>
        obtain ⟨j, x, hj, rfl, rfl, hx, hR⟩ := hrel
        have hx3 : x < 65536 := by
          have := Nat.pow_le_pow_right (n := 16) (by omega) (show j ≤ 4 by omega)
          omega
        by_cases hjs : j < s.size
        · have hjI : (j : Int) < (s.size : Int) := by omega
          have hst := hR.out
          have hc256 : (s[j]'hjs).toNat < 256 := (s[j]'hjs).toNat_lt
          rw [drop_at hjs, hexG, hexD_is _ hc256] at hst
          have HST := Lib.hid hst
          have HXX := Lib.hid (show ∀ d, d < 16 → x * 16 + d < 16 ^ (j + 1) from fun d hd => by rw [Nat.pow_succ]; omega)
          clear hst hR hx
          have hor : (48 ≤ (s[j]'hjs).toNat ∧ (s[j]'hjs).toNat ≤ 57) ∨ (97 ≤ (s[j]'hjs).toNat ∧ (s[j]'hjs).toNat ≤ 102) ∨ (65 ≤ (s[j]'hjs).toNat ∧ (s[j]'hjs).toNat ≤ 70) ∨ ((s[j]'hjs).toNat < 48) ∨ (57 < (s[j]'hjs).toNat ∧ (s[j]'hjs).toNat < 65) ∨ (70 < (s[j]'hjs).toNat ∧ (s[j]'hjs).toNat < 97) ∨ 102 < (s[j]'hjs).toNat := by omega
          rcases hor with ⟨d1, d2⟩ | ⟨d1, d2⟩ | ⟨d1, d2⟩ | d1 | ⟨d1, d2⟩ | ⟨d1, d2⟩ | d1
          · have HD := Lib.hid (show G = hexG (x * 16 + ((s[j]'hjs).toNat - 48)) (s.data.toList.drop (j + 1)) by rw [HST.out, if_pos (by omega)])
            clear HST
            go_wp2_with fail
            go_round
            case rel => exact ⟨j + 1, x * 16 + ((s[j]'hjs).toNat - 48), by omega, by go_num, by go_num, HXX.out _ (by omega), HD⟩
            case measure => simp [intOf]; omega
          · have HD := Lib.hid (show G = hexG (x * 16 + ((s[j]'hjs).toNat - 87)) (s.data.toList.drop (j + 1)) by rw [HST.out, if_neg (by omega), if_pos (by omega)])
            clear HST
            go_wp2_with fail
            go_round
            case rel => exact ⟨j + 1, x * 16 + ((s[j]'hjs).toNat - 87), by omega, by go_num, by go_num, HXX.out _ (by omega), HD⟩
            case measure => simp [intOf]; omega
          · have HD := Lib.hid (show G = hexG (x * 16 + ((s[j]'hjs).toNat - 55)) (s.data.toList.drop (j + 1)) by rw [HST.out, if_neg (by omega), if_neg (by omega), if_pos (by omega)])
            clear HST
            go_wp2_with fail
            go_round
            case rel => exact ⟨j + 1, x * 16 + ((s[j]'hjs).toNat - 55), by omega, by go_num, by go_num, HXX.out _ (by omega), HD⟩
            case measure => simp [intOf]; omega
          all_goals
            have HD := Lib.hid (show G = none by rw [HST.out, if_neg (by omega), if_neg (by omega), if_neg (by omega)])
            clear HST
            go_wp2_with fail
            go_ret
            exact ⟨ret_eq (by rw [HR.out, HD.out]; rfl), rfl⟩
        · obtain rfl : j = s.size := by omega
          have HD := Lib.hid (show G = some x by
            have := hR.out
            rw [List.drop_of_length_le (by rw [HL.out]; exact Nat.le_refl _)] at this
            exact this)
          clear hR hx
          go_wp2_with fail
          go_ret
          exact ⟨ret_eq (by rw [HR.out, HD.out]; rfl), rfl⟩
end
end Go.Proofs.YtcameghlkplgfaaGreatDoor
namespace Go.Proofs.YtcameghlkplgfaaGreatDoor
open Go.Proofs Go.Shelf Go.RowKit
def i64u (x : Nat) : Value := .int .i64 (x : Int)
/-- A slice of ints of the call's own, made since w. -/
def Ix (w wr : World) (v : Value) (l : List Nat) : Prop :=
  ∃ A c, v = .slice A l.length c ∧ Own wr 3 1 A l.length c (l.map i64u) ∧ (∀ g, A = some ⟨g, 0, none⟩ → w.heap.size ≤ g) ∧ Fr N0 w wr
theorem Ix.nil_ {w wr : World} (h : Fr N0 w wr) : Ix w wr (.slice none 0 0) [] := ⟨none, 0, rfl, Own.nil_ _ _ _, nofun, h⟩
theorem infoI : (Tryz.prog.info? 3).map (fun i => (i.zero, i.size, i.bytes)) = some (some (.int .i64 0), 1, 8) := by kernel_rfl
theorem Ix.step {w wr w' : World} {A : Option Addr} {g' c' n x : Nat} {l : List Nat} {X : Int} (G1 : ∀ g, A = some ⟨g, 0, none⟩ → w.heap.size ≤ g) (F1 : Fr N0 w wr) (hn : l.length = n)
    (hO' : Own w' 3 1 (some ⟨g', 0, none⟩) (n + 1) c' (l.map i64u ++ [.int .i64 X])) (hF' : Fr (fun i => A = some ⟨i, 0, none⟩) wr w') (hA' : A = some ⟨g', 0, none⟩ ∨ wr.heap.size ≤ g') (hX : X = (x : Int)) :
    Ix w w' (.slice (some ⟨g', 0, none⟩) (n + 1) c') (l ++ [x]) := by
  subst hX
  refine ⟨some ⟨g', 0, none⟩, c', by rw [List.length_append, hn]; rfl, by rw [List.length_append, hn, List.map_append]; exact hO', ?_, F1.step hF' fun i hi => .inr (G1 i hi)⟩
  intro g e
  rcases hA' with h | h
  · exact G1 g (h.trans e)
  · injection e with e
    injection e with e
    rw [← e]
    exact Nat.le_trans F1.size h
theorem Ix.mk' {w wr : World} {A : Option Addr} {c n : Nat} {L l : List Nat} (hn : L.length = n) (hl : L = l) (hO : Own wr 3 1 A n c (L.map i64u)) (hg : ∀ g, A = some ⟨g, 0, none⟩ → w.heap.size ≤ g) (hF : Fr N0 w wr) : Ix w wr (.slice A n c) l := by
  subst hl hn
  exact ⟨A, c, rfl, hO, hg, hF⟩
theorem Ix.fr {w wr w' : World} {v : Value} {l : List Nat} (h : Ix w wr v l) (hF : Fr N0 wr w') : Ix w w' v l := by
  obtain ⟨A, c, h1, h2, h3, h4⟩ := h
  exact ⟨A, c, h1, h2.fr hF fun _ _ h => h, h3, h4.trans hF⟩
/-- A text of groups is read; the empty one, where a :: stands beside it, as none. -/
def rowR (t : List UInt8) : Option (List Nat) := hexs (cutL 58 t)
def sixQ (l : List UInt8) : Option (List Nat × Int) :=
  if 0 ≤ Lib.index l [58, 58] then (match rowP (bA (Lib.cut l [58, 58]).1), rowP (bA (Lib.cut l [58, 58]).2.1) with
    | some X, some Y => some (X ++ Y, (X.length : Int))
    | _, _ => none) else (rowR l).map fun X => (X, -1)
theorem occ_at {s : ByteArray} {j : Nat} (h : j + 1 < s.size) : Lib.occAt s.data.toList [58, 58] j = ((s[j]'(by omega)) == 58 && (s[j + 1]'h) == 58) := by
  unfold Lib.occAt
  rw [drop_at (show j < s.size by omega), drop_at h]
  have c : ∀ x : UInt8, ((58 : UInt8) == x) = (x == 58) := fun x => by
    rw [Bool.eq_iff_iff, beq_iff_eq, beq_iff_eq]
    exact eq_comm
  show ((58 : UInt8) == _ && ((58 : UInt8) == _ && true)) = _
  rw [c, c, Bool.and_true]
theorem ix_found {s : ByteArray} {j : Nat} (h : j + 1 < s.size) (h1 : (s[j]'(by omega)) = 58) (h2 : (s[j + 1]'h) = 58) (hn : ∀ k, k < j → Lib.occAt s.data.toList [58, 58] k = false) : Lib.index s.data.toList [58, 58] = j :=
  Lib.index_first (by rw [show s.data.toList.length = s.size from Lib.size_eq s]; omega) (by rw [occ_at h, h1, h2]; rfl) hn
theorem ix_none {s : ByteArray} {j : Nat} (h : ¬ j + 1 < s.size) (hn : ∀ k, k < j → Lib.occAt s.data.toList [58, 58] k = false) : Lib.index s.data.toList [58, 58] = -1 :=
  Lib.index_none fun k _ => by
    by_cases hk : k < j
    · exact hn k hk
    · cases hc : Lib.occAt s.data.toList [58, 58] k with
      | false => rfl
      | true =>
        have := Lib.occAt_room hc
        rw [show s.data.toList.length = s.size from Lib.size_eq s] at this
        rcases this with h | h
        · simp only [List.length_cons, List.length_nil] at h; omega
        · cases h
theorem own_strB {w : World} {A : Option Addr} {n c : Nat} {bs : List (List UInt8)} (h : Own w 9 1 A n c (bs.map strv)) (hn : 0 < n) : ∃ g cur, A = some ⟨g, 0, none⟩ ∧ Blk w g 9 cur ∧ ∀ (i : Nat) (x : List UInt8), bs[i]? = some x → cur[i]? = some (.string (bA x)) := by
  rcases h.2 with ⟨_, h0, _⟩ | ⟨g, cur, e, hg, _, _, _, ht⟩
  · omega
  · refine ⟨g, cur, e, hg, fun i x hi => ?_⟩
    have h1 : (cur.toList.take (n * 1))[i]? = some (strv x) := by rw [ht, List.getElem?_map, hi]; rfl
    rw [List.getElem?_take] at h1
    split at h1
    · rw [Array.getElem?_toList] at h1
      exact h1
    · cases h1
/-- An append to a slice of ints leaves a block of texts alone. -/
theorem keep_str {w w' : World} {A : Option Addr} {n c g : Nat} {xs : List Value} {cs : Array Value} (hO : Own w 3 1 A n c xs) (hF : Fr (fun i => A = some ⟨i, 0, none⟩) w w') (hB : Blk w g 9 cs) : Blk w' g 9 cs :=
  hB.fr hF fun e => by
    subst e
    exact hO.block_ne hB (by decide) rfl
theorem tl_ge : ∀ (ts : List (List UInt8)), ts.length ≤ tl ts
  | [] => Nat.le_refl _
  | t :: ts => by
    have := tl_ge ts
    simp only [tl, List.length_cons]
    omega
section
variable {w : World}
theorem rspl58 (t : List UInt8) (hs : t.length ≤ 4294967296) : Calls Tryz.prog 37 #[.string (bA t), .int .u8 58] w fun e w' => ∃ v, e = .returned v ∧ Sx w w' v (cutL 58 t) := by
  have h := rspl (w := w) (bA t) 58 (by rw [bA_size]; exact hs)
  rw [bA_list] at h
  exact h
set_option maxHeartbeats 6400000 in
set_option maxRecDepth 100000 in
theorem rsix_no (s : ByteArray) (hs : s.size ≤ 4294967295) (hno : Lib.index s.data.toList [58, 58] = -1) : Calls Tryz.prog 39 #[.string s] w fun e w' =>
    (∀ X, rowR s.data.toList = some X → ∃ v, e = .returned (.tuple #[v, .int .i64 (-1), .bool true]) ∧ Ix w w' v X) ∧ (rowR s.data.toList = none → e = .returned (.tuple #[.slice none 0 0, .int .i64 0, .bool false])) ∧ Fr N0 w w' := by
  have hocc : ∀ k, Lib.occAt s.data.toList [58, 58] k = false := by
    rcases Lib.index_spec s.data.toList [58, 58] with ⟨_, h⟩ | ⟨i, h1, _⟩
    · intro k
      by_cases hk : k ≤ s.data.toList.length
      · exact h k hk
      · cases hc : Lib.occAt s.data.toList [58, 58] k with
        | false => rfl
        | true =>
          rcases Lib.occAt_room hc with h | h
          · simp only [List.length_cons, List.length_nil] at h; omega
          · cases h
    · rw [hno] at h1; omega
  have HOC := Lib.hid hocc
  clear hocc hno
  obtain ⟨b, hb⟩ : ∃ b, b = s.toList.isEmpty := ⟨_, rfl⟩
  cases b
  all_goals
    have hemp := hb.symm
    clear hb
    go_enter Tryz.func39, Tryz.ntmps39
    go_wp2_with fail
    go_loop [5, 6] (fun g i => ∃ j : Nat, j ≤ s.size ∧ i = .int .i64 (j : Int) ∧ g = .int .i64 (-1)) (fun _ i => s.size + 1 - (intOf i).toNat)
    case atStart => exact ⟨0, by omega, rfl, rfl⟩
    case round =>
      obtain ⟨j, hj, rfl, rfl⟩ := hrel
      by_cases hjs : j + 1 < s.size
      · have hjI : (j : Int) + 1 < (s.size : Int) := by omega
        have ho := HOC.out j
        rw [occ_at hjs] at ho
        have hor : (((s[j]'(by omega)).toNat : Int) == 58) = false ∨ ((((s[j]'(by omega)).toNat : Int) == 58) = true ∧ (((s[j + 1]'hjs).toNat : Int) == 58) = false) := by
          by_cases e1 : (s[j]'(by omega)) = 58
          · right
            rw [e1] at ho ⊢
            refine ⟨rfl, ?_⟩
            simp at ho
            simp only [beq_eq_false_iff_ne, ne_eq]
            intro e
            exact ho (UInt8.toNat_inj.1 (by have : (58 : UInt8).toNat = 58 := rfl; omega))
          · left
            simp only [beq_eq_false_iff_ne, ne_eq]
            intro e
            exact e1 (UInt8.toNat_inj.1 (by have : (58 : UInt8).toNat = 58 := rfl; omega))
        clear ho
        rcases hor with hor | ⟨hor, hor2⟩
        all_goals
          go_wp2_with fail
          go_round
          case rel => exact ⟨j + 1, by omega, by go_num, rfl⟩
          case measure => simp [intOf]; omega
      · have hjI : ¬ ((j : Int) + 1 < (s.size : Int)) := by omega
        go_wp2_with fail
        have HPB := Lib.hid (Blk.new w 9 #[.string s])
        have FP := Lib.hid ((Fr.refl N0 w).alloc (.cells #[.string s] 9))
        have eS : s = bA s.data.toList := by
          unfold bA
          exact ByteArray.ext (by simp)
        have hsl : s.data.toList.length ≤ 4294967296 := by rw [show s.data.toList.length = s.size from Lib.size_eq s]; omega
        have KS := Lib.hid fun (W : World) => rspl58 (w := W) s.data.toList hsl
        rw [← eS] at KS
        generalize w.alloc _ = w1 at *
        generalize w.heap.size = gp at *
        clear eS hsl
        go_loopw [8, 9, 10] (fun v a k wr => ∃ L, ((k = .int .i64 0 ∧ L = []) ∨ (k = .int .i64 1 ∧ Hid (rowR s.data.toList = some L))) ∧ Ix w wr v L ∧ a = .int .i64 (-1) ∧ Blk wr gp 9 #[.string s]) (fun _ _ k _ => 2 - (intOf k).toNat)
        case atStart => exact ⟨[], .inl ⟨rfl, rfl⟩, Ix.nil_ FP.out, rfl, HPB.out⟩
        case round =>
          obtain ⟨L, hk, hI, rfl, hP⟩ := hrel
          have PB := Lib.hid hP
          have HI := Lib.hid hI
          clear hP hI
          rcases hk with ⟨rfl, rfl⟩ | ⟨rfl, HX⟩
          · have p0 := PB.out.c1
            obtain ⟨A0, c0, rfl, hO0, hg0, hF0⟩ := HI.out
            have O0 := Lib.hid hO0
            have G0 := Lib.hid hg0
            have F0 := Lib.hid hF0
            clear hO0 hg0 hF0 HI
            go_wp2_with fail
            refine (KS.out _).mono ?_
            rintro e w4 ⟨v, rfl, A, c, rfl, hO, hg, hf⟩
            obtain ⟨ts, hts⟩ : ∃ ts, ts = cutL 58 s.data.toList := ⟨_, rfl⟩
            rw [← hts] at hO ⊢
            have hpos : 0 < ts.length := by
              obtain ⟨t, r, e⟩ := cutL_ne 58 s.data.toList
              rw [hts, e]
              simp
            have hnl : ts.length ≤ 4294967296 := by
              have h1 := tl_cut 58 s.data.toList
              have h2 := tl_ge (cutL 58 s.data.toList)
              rw [show s.data.toList.length = s.size from Lib.size_eq s] at h1
              rw [hts]
              omega
            obtain ⟨gb, cur, rfl, hbB, hcell⟩ := own_strB hO hpos
            have HCL := Lib.hid hcell
            have HBB := Lib.hid hbB
            have HTS := Lib.hid hts
            have PB4 := Lib.hid (PB.out.fr hf id)
            have HI4 := Lib.hid (Ix.mk' rfl rfl (O0.out.fr hf fun _ _ h => h) G0.out (F0.out.trans hf))
            obtain ⟨n, hn⟩ : ∃ n, n = ts.length := ⟨_, rfl⟩
            rw [← hn] at hnl hpos ⊢
            have HN := Lib.hid hn
            clear hO hg hf hcell hbB hts hn p0 O0 G0 F0 PB
            go_wp2_with fail
            go_loopw [8, 12] (fun v i wr2 => ∃ (j : Nat) (us : List Nat), j ≤ n ∧ i = .int .i64 (j : Int) ∧ Hid (hexs (ts.take j) = some us) ∧ Ix w wr2 v us ∧ Blk wr2 gp 9 #[.string s] ∧ Blk wr2 gb 9 cur) (fun _ i _ => n + 1 - (intOf i).toNat)
            case atStart => exact ⟨0, [], by omega, rfl, Lib.hid rfl, HI4.out, PB4.out, HBB.out⟩
            case round =>
              obtain ⟨j, us, hj, rfl, hR, ⟨A, c, rfl, hO, hg, hF⟩, hP, hB⟩ := hrel
              have O1 := Lib.hid hO
              have G1 := Lib.hid hg
              have F1 := Lib.hid hF
              have PB := Lib.hid hP
              have BB := Lib.hid hB
              clear hO hg hF hP hB PB4 HBB HI4
              by_cases hjn : j < n
              · have hjI : (j : Int) < (n : Int) := by omega
                obtain ⟨t, ht⟩ : ∃ t, ts[j]? = some t := ⟨ts[j]'(by rw [← HN.out]; exact hjn), List.getElem?_eq_getElem _⟩
                have y0 := (BB.out.cell j).trans (HCL.out _ _ ht)
                have kg := fun (W : World) => rgrp (w := W) (bA t)
                have hsn := hexs_snoc (ts.take j) t
                have e1 : ts.take j ++ [t] = ts.take (j + 1) := by
                  obtain ⟨h1, h2⟩ := List.getElem?_eq_some_iff.1 ht
                  rw [List.take_succ_eq_append_getElem h1, h2]
                have hus := hexs_len _ _ hR.out
                rw [List.length_take] at hus
                rw [e1, hR.out] at hsn
                rw [bA_list] at kg
                have HUS := Lib.hid hus
                cases hx : num16 t with
                | none =>
                  have HNO := Lib.hid (hexs_none ts j t ht hx)
                  rw [hx] at kg
                  clear ht e1 hsn hus hx hR
                  go_wp2_with (go_at_call 61; refine (kg _).mono ?_; rintro e w5 ⟨rfl, rfl⟩)
                  go_ret3
                  refine ⟨fun X h => ?_, fun _ => rfl, F1.out⟩
                  unfold rowR at h
                  rw [← HTS.out, HNO.out] at h
                  cases h
                | some u =>
                  rw [hx] at kg hsn
                  have HSN := Lib.hid hsn
                  clear ht e1 hsn hx hR hus
                  obtain ⟨N, hN⟩ : ∃ N, N = us.length := ⟨_, rfl⟩
                  rw [← hN] at O1 HUS ⊢
                  have HLN := Lib.hid hN.symm
                  have hNj : N ≤ 4294967296 := by have := HUS.out; omega
                  clear hN
                  obtain ⟨i0, hi, hz0, hz1, hz2⟩ := info_parts infoI
                  unfold oI at kg
                  go_wp2_with (first
                    | (go_at_call 61; refine (kg _).mono ?_; rintro e w5 ⟨rfl, rfl⟩)
                    | (at_builtin; refine wpList_append1 wr rfl (.tmp 82) (.tmp 84) 65 rfl 3 i0 (.int .i64 0) 1 8 Tryz.underlying65 hi hz0 hz1 hz2 rfl (by omega) A N c _ rfl O1.out [.int .i64 (u : Int)] rfl rfl ?_ ?_ ?_ ?_))
                  · simp [Value.oneCell']
                  · omega
                  · omega
                  · intro g' c' w' hO' hF' hA'
                    have HB := Lib.hid (Ix.step G1.out F1.out HLN.out hO' hF' hA' rfl)
                    have PB5 := Lib.hid (keep_str O1.out hF' PB.out)
                    have BB5 := Lib.hid (keep_str O1.out hF' BB.out)
                    clear hO' hF' hA'
                    go_wp2_with fail
                    go_roundw
                    case rel => exact ⟨j + 1, us ++ [u], by omega, by go_num, HSN, HB.out, PB5.out, BB5.out⟩
                    case measure => first | (simp [intOf]; done) | (simp [intOf]; omega)
              · obtain rfl : j = n := by omega
                have HR := Lib.hid (show rowR s.data.toList = some us by
                  have := hR.out
                  rw [List.take_of_length_le (by rw [← HN.out]; exact Nat.le_refl _), HTS.out] at this
                  exact this)
                clear hR
                go_wp2_with fail
                go_roundw
                case rel => exact ⟨us, .inr ⟨rfl, HR⟩, Ix.mk' rfl rfl O1.out G1.out F1.out, rfl, PB.out⟩
                case measure => first | (simp [intOf]; done) | (simp [intOf]; omega)
          · have F1 := Lib.hid (show Fr N0 w wr from HI.out.choose_spec.choose_spec.2.2.2)
            go_wp2_with fail
            go_ret3
            refine ⟨fun Y h => ?_, fun h => ?_, F1.out⟩
            · rw [HX.out] at h
              cases h
              exact ⟨_, rfl, HI.out⟩
            · rw [HX.out] at h
              cases h
end
end Go.Proofs.YtcameghlkplgfaaGreatDoor
namespace Go.Proofs.YtcameghlkplgfaaGreatDoor
open Go.Proofs Go.Shelf Go.RowKit
theorem rowP_ne {t : List UInt8} (h : t ≠ []) : rowP (bA t) = hexs (cutL 58 t) := by
  unfold rowP
  rw [if_neg (by rw [bA_size]; intro e; exact h (List.eq_nil_of_length_eq_zero e)), spl_cut, bA_list]
theorem rowP_nl0 {t : List UInt8} (h : t = []) : rowP (bA t) = some [] := by
  subst h
  rfl
theorem bA_emp {t : List UInt8} (h : t = []) : (bA t).toList.isEmpty = true := by
  subst h
  decide +kernel
theorem nl_ge : ∀ (us : List Nat), 2 * us.length ≤ nl us
  | [] => Nat.le_refl _
  | u :: us => by
    have := nl_ge us
    have := (nh_le u).1
    simp only [nl, List.length_cons]
    omega
section
variable {w : World}
set_option maxHeartbeats 12800000 in
set_option maxRecDepth 100000 in
theorem rsix_gap (s : ByteArray) (hs : s.size ≤ 4294967295) (p : Nat) (hix : Lib.index s.data.toList [58, 58] = (p : Int)) (x y : List UInt8) (hx : x = s.data.toList.take p) (hy : y = s.data.toList.drop (p + 2)) : Calls Tryz.prog 39 #[.string s] w fun e w' =>
    (∀ X Y, rowP (bA x) = some X → rowP (bA y) = some Y → ∃ v, e = .returned (.tuple #[v, .int .i64 (X.length : Int), .bool true]) ∧ Ix w w' v (X ++ Y)) ∧ (rowP (bA x) = none ∨ rowP (bA y) = none → e = .returned (.tuple #[.slice none 0 0, .int .i64 0, .bool false])) ∧ Fr N0 w w' := by
  have hsz : s.data.toList.length = s.size := Lib.size_eq s
  have hspec : p + 1 < s.size ∧ Lib.occAt s.data.toList [58, 58] p = true ∧ ∀ k, k < p → Lib.occAt s.data.toList [58, 58] k = false := by
    rcases Lib.index_spec s.data.toList [58, 58] with ⟨h, _⟩ | ⟨i, h1, h2, h3, h4⟩
    · omega
    · obtain rfl : i = p := by omega
      refine ⟨?_, h3, h4⟩
      rcases Lib.occAt_room h3 with h | h
      · simp only [List.length_cons, List.length_nil] at h; omega
      · cases h
  obtain ⟨hp, hocc, hno⟩ := hspec
  have hlx : x.length ≤ 4294967295 := by rw [hx, List.length_take]; omega
  have hly : y.length ≤ 4294967295 := by rw [hy, List.length_drop]; omega
  have ex : s.extract 0 p = bA x := by rw [ext_bA, hx]; simp
  have ey : s.extract (p + 2) s.size = bA y := by
    rw [ext_bA, hy, List.take_of_length_le (by rw [List.length_drop]; omega)]
  have KSx := Lib.hid fun (W : World) => rspl58 (w := W) x (by omega)
  have KSy := Lib.hid fun (W : World) => rspl58 (w := W) y (by omega)
  have HLx := Lib.hid hlx
  have HLy := Lib.hid hly
  have EX := Lib.hid ex
  have EY := Lib.hid ey
  have HOC := Lib.hid hno
  clear hsz
  rw [occ_at hp] at hocc
  simp only [Bool.and_eq_true, beq_iff_eq] at hocc
  have q1 : (((s[p]'(by omega)).toNat : Int) == 58) = true := by rw [hocc.1]; rfl
  have q2 : (((s[p + 1]'hp).toNat : Int) == 58) = true := by rw [hocc.2]; rfl
  have HQ := Lib.hid (And.intro q1 q2)
  clear hocc hno hix hlx hly ex ey hx hy q1 q2
  go_enter Tryz.func39, Tryz.ntmps39
  go_wp2_with fail
  go_loop [5, 6] (fun g i => ∃ j : Nat, j ≤ p ∧ i = .int .i64 (j : Int) ∧ g = .int .i64 (-1)) (fun _ i => s.size + 1 - (intOf i).toNat)
  case atStart => exact ⟨0, by omega, rfl, rfl⟩
  case round =>
    obtain ⟨j, hj, rfl, rfl⟩ := hrel
    have hjs : j + 1 < s.size := by omega
    have hjI : (j : Int) + 1 < (s.size : Int) := by omega
    by_cases hjp : j < p
    · have ho := HOC.out j hjp
      rw [occ_at hjs] at ho
      have hor : (((s[j]'(by omega)).toNat : Int) == 58) = false ∨ ((((s[j]'(by omega)).toNat : Int) == 58) = true ∧ (((s[j + 1]'hjs).toNat : Int) == 58) = false) := by
        by_cases e1 : (s[j]'(by omega)) = 58
        · right
          rw [e1] at ho ⊢
          refine ⟨rfl, ?_⟩
          simp at ho
          simp only [beq_eq_false_iff_ne, ne_eq]
          intro e
          exact ho (UInt8.toNat_inj.1 (by have : (58 : UInt8).toNat = 58 := rfl; omega))
        · left
          simp only [beq_eq_false_iff_ne, ne_eq]
          intro e
          exact e1 (UInt8.toNat_inj.1 (by have : (58 : UInt8).toNat = 58 := rfl; omega))
      clear ho
      rcases hor with hor | ⟨hor, hor2⟩
      all_goals
        go_wp2_with fail
        go_round
        case rel => exact ⟨j + 1, by omega, by go_num, rfl⟩
        case measure => simp [intOf]; omega
    · obtain rfl : j = p := by omega
      obtain ⟨q1, q2⟩ := HQ.out
      clear HOC HQ
      go_wp2_with fail
      go_region
      rw [EX.out, EY.out]
      have HPB := Lib.hid (Blk.alloc2 w (.cells #[.string s] 9) 9 #[.string (bA x), .string (bA y)]).drew
      have FP := Lib.hid ((((Fr.refl N0 w).alloc (.cells #[.string s] 9)).alloc (.cells #[.string (bA x), .string (bA y)] 9)).drew)
      generalize World.drew _ = w1 at *
      generalize w.heap.size + 1 = gp at *
      clear EX EY
      go_wp2_with fail
      go_loopw [8, 9, 10] (fun v a k wr => ∃ L, ((k = .int .i64 0 ∧ L = [] ∧ a = .int .i64 (-1)) ∨ (k = .int .i64 1 ∧ Hid (rowP (bA x) = some L) ∧ a = .int .i64 (-1)) ∨ (k = .int .i64 2 ∧ ∃ X Y, Hid (rowP (bA x) = some X) ∧ Hid (rowP (bA y) = some Y) ∧ Hid (L = X ++ Y) ∧ a = .int .i64 (X.length : Int))) ∧ Ix w wr v L ∧ Hid (L.length ≤ 8589934592) ∧ Blk wr gp 9 #[.string (bA x), .string (bA y)]) (fun _ _ k _ => 3 - (intOf k).toNat)
      case atStart => exact ⟨[], .inl ⟨rfl, rfl, rfl⟩, Ix.nil_ FP.out, Lib.hid (by simp), HPB.out⟩
      case round =>
        obtain ⟨L, hk, hI, HLL8, hP⟩ := hrel
        have PB := Lib.hid hP
        have HI := Lib.hid hI
        clear hP hI
        rcases hk with ⟨rfl, rfl, rfl⟩ | ⟨rfl, HX, rfl⟩ | ⟨rfl, X, Y, HX, HY, HXY, rfl⟩
        · have p0 := PB.out.c2.1
          have p1 := PB.out.c2.2
          obtain ⟨A0, c0, rfl, hO0, hg0, hF0⟩ := HI.out
          have O0 := Lib.hid hO0
          have G0 := Lib.hid hg0
          have F0 := Lib.hid hF0
          clear hO0 hg0 hF0 HI
          by_cases hxe : x = []
          · have he := bA_emp hxe
            have HR := Lib.hid (rowP_nl0 hxe)
            clear hxe
            go_wp2_with fail
            go_roundw
            case rel => exact ⟨[], .inr (.inl ⟨rfl, HR, rfl⟩), Ix.mk' rfl rfl O0.out G0.out F0.out, HLL8, PB.out⟩
            case measure => first | (simp [intOf]; done) | (simp [intOf]; omega)
          · have he := nempty_of (s := bA x) (by rw [bA_size]; exact fun e => hxe (List.eq_nil_of_length_eq_zero e))
            have HEx := Lib.hid hxe
            have HLL := Lib.hid (show ([] : List Nat).length ≤ 4294967296 by simp)
            clear hxe
            go_wp2_with fail
            refine (KSx.out _).mono ?_
            rintro e w4 ⟨v, rfl, A, c, rfl, hO, hg, hf⟩
            obtain ⟨ts, hts⟩ : ∃ ts, ts = cutL 58 x := ⟨_, rfl⟩
            rw [← hts] at hO ⊢
            have hpos : 0 < ts.length := by
              obtain ⟨t, r, e⟩ := cutL_ne 58 x
              rw [hts, e]
              simp
            have hnl : ts.length ≤ 4294967296 := by
              have h1 := tl_cut 58 x
              have h2 := tl_ge (cutL 58 x)
              have h3 := HLx.out
              rw [hts]
              omega
            obtain ⟨gb, cur, rfl, hbB, hcell⟩ := own_strB hO hpos
            have HCL := Lib.hid hcell
            have HBB := Lib.hid hbB
            have HTS := Lib.hid hts
            have PB4 := Lib.hid (PB.out.fr hf id)
            have HI4 := Lib.hid (Ix.mk' (l := ([] : List Nat)) rfl rfl (O0.out.fr hf fun _ _ h => h) G0.out (F0.out.trans hf))
            obtain ⟨n, hn⟩ : ∃ n, n = ts.length := ⟨_, rfl⟩
            rw [← hn] at hnl hpos ⊢
            have HN := Lib.hid hn
            clear hO hg hf hcell hbB hts hn p0 p1 O0 G0 F0 PB he
            go_wp2_with fail
            go_loopw [8, 12] (fun v i wr2 => ∃ (j : Nat) (us : List Nat), j ≤ n ∧ i = .int .i64 (j : Int) ∧ Hid (hexs (ts.take j) = some us) ∧ Ix w wr2 v (([] : List Nat) ++ us) ∧ Blk wr2 gp 9 #[.string (bA x), .string (bA y)] ∧ Blk wr2 gb 9 cur) (fun _ i _ => n + 1 - (intOf i).toNat)
            case atStart => exact ⟨0, [], by omega, rfl, Lib.hid rfl, by rw [List.append_nil]; exact HI4.out, PB4.out, HBB.out⟩
            case round =>
              obtain ⟨j, us, hj, rfl, hR, ⟨A, c, rfl, hO, hg, hF⟩, hP, hB⟩ := hrel
              have O1 := Lib.hid hO
              have G1 := Lib.hid hg
              have F1 := Lib.hid hF
              have PB := Lib.hid hP
              have BB := Lib.hid hB
              clear hO hg hF hP hB PB4 HBB HI4
              by_cases hjn : j < n
              · have hjI : (j : Int) < (n : Int) := by omega
                obtain ⟨t, ht⟩ : ∃ t, ts[j]? = some t := ⟨ts[j]'(by rw [← HN.out]; exact hjn), List.getElem?_eq_getElem _⟩
                have y0 := (BB.out.cell j).trans (HCL.out _ _ ht)
                have kg := fun (W : World) => rgrp (w := W) (bA t)
                have hsn := hexs_snoc (ts.take j) t
                have e1 : ts.take j ++ [t] = ts.take (j + 1) := by
                  obtain ⟨h1, h2⟩ := List.getElem?_eq_some_iff.1 ht
                  rw [List.take_succ_eq_append_getElem h1, h2]
                have hus := hexs_len _ _ hR.out
                rw [List.length_take] at hus
                rw [e1, hR.out] at hsn
                rw [bA_list] at kg
                have HUS := Lib.hid hus
                cases hx : num16 t with
                | none =>
                  have HNO := Lib.hid (hexs_none ts j t ht hx)
                  rw [hx] at kg
                  clear ht e1 hsn hus hx hR
                  go_wp2_with (go_at_call 61; refine (kg _).mono ?_; rintro e w5 ⟨rfl, rfl⟩)
                  go_ret3
                  have hbad : rowP (bA x) = none := by rw [rowP_ne HEx.out, ← HTS.out, HNO.out]
                  refine ⟨fun X Y h _ => ?_, fun _ => rfl, F1.out⟩
                  rw [hbad] at h
                  cases h
                | some u =>
                  rw [hx] at kg hsn
                  have HSN := Lib.hid hsn
                  clear ht e1 hsn hx hR hus
                  obtain ⟨N, hN⟩ : ∃ N, N = (([] : List Nat) ++ us).length := ⟨_, rfl⟩
                  rw [← hN] at O1 ⊢
                  have HLN := Lib.hid hN.symm
                  have hNj : N ≤ 4294967296 * 2 := by have := HUS.out; have := HLL.out; rw [List.length_append] at hN; omega
                  clear hN
                  obtain ⟨i0, hi, hz0, hz1, hz2⟩ := info_parts infoI
                  unfold oI at kg
                  go_wp2_with (first
                    | (go_at_call 61; refine (kg _).mono ?_; rintro e w5 ⟨rfl, rfl⟩)
                    | (at_builtin; refine wpList_append1 wr rfl (.tmp 82) (.tmp 84) 65 rfl 3 i0 (.int .i64 0) 1 8 Tryz.underlying65 hi hz0 hz1 hz2 rfl (by omega) A N c _ rfl O1.out [.int .i64 (u : Int)] rfl rfl ?_ ?_ ?_ ?_))
                  · simp [Value.oneCell']
                  · omega
                  · omega
                  · intro g' c' w' hO' hF' hA'
                    have HB := Lib.hid (Ix.step G1.out F1.out HLN.out hO' hF' hA' rfl)
                    have PB5 := Lib.hid (keep_str O1.out hF' PB.out)
                    have BB5 := Lib.hid (keep_str O1.out hF' BB.out)
                    clear hO' hF' hA'
                    go_wp2_with fail
                    go_roundw
                    case rel => exact ⟨j + 1, us ++ [u], by omega, by go_num, HSN, by rw [← List.append_assoc]; exact HB.out, PB5.out, BB5.out⟩
                    case measure => first | (simp [intOf]; done) | (simp [intOf]; omega)
              · obtain rfl : j = n := by omega
                have HR := Lib.hid (show rowP (bA x) = some us by
                  have := hR.out
                  rw [List.take_of_length_le (by rw [← HN.out]; exact Nat.le_refl _), HTS.out] at this
                  rw [rowP_ne HEx.out]
                  exact this)
                have HUL := Lib.hid (show us.length ≤ 4294967296 by have := hexs_len _ _ hR.out; rw [List.length_take] at this; omega)
                clear hR
                go_wp2_with fail
                go_roundw
                case rel => exact ⟨us, .inr (.inl ⟨rfl, HR, rfl⟩), Ix.mk' rfl rfl O1.out G1.out F1.out, Lib.hid (by have := HUL.out; omega), PB.out⟩
                case measure => first | (simp [intOf]; done) | (simp [intOf]; omega)
        · have p0 := PB.out.c2.1
          have p1 := PB.out.c2.2
          obtain ⟨A0, c0, rfl, hO0, hg0, hF0⟩ := HI.out
          have O0 := Lib.hid hO0
          have G0 := Lib.hid hg0
          have F0 := Lib.hid hF0
          clear hO0 hg0 hF0 HI
          by_cases hye : y = []
          · have he := bA_emp hye
            have HR := Lib.hid (rowP_nl0 hye)
            clear hye
            go_wp2_with fail
            go_roundw
            case rel => exact ⟨L, .inr (.inr ⟨rfl, L, [], HX, HR, Lib.hid (List.append_nil L).symm, rfl⟩), Ix.mk' rfl rfl O0.out G0.out F0.out, HLL8, PB.out⟩
            case measure => first | (simp [intOf]; done) | (simp [intOf]; omega)
          · have he := nempty_of (s := bA y) (by rw [bA_size]; exact fun e => hye (List.eq_nil_of_length_eq_zero e))
            have HEy := Lib.hid hye
            have HLL := Lib.hid (show L.length ≤ 4294967296 by
              have h1 := (rowP_nl HX.out).1
              have h2 := nl_ge L
              have h3 := HLx.out
              rw [bA_size] at h1
              split at h1 <;> omega)
            clear hye
            go_wp2_with fail
            refine (KSy.out _).mono ?_
            rintro e w4 ⟨v, rfl, A, c, rfl, hO, hg, hf⟩
            obtain ⟨ts, hts⟩ : ∃ ts, ts = cutL 58 y := ⟨_, rfl⟩
            rw [← hts] at hO ⊢
            have hpos : 0 < ts.length := by
              obtain ⟨t, r, e⟩ := cutL_ne 58 y
              rw [hts, e]
              simp
            have hnl : ts.length ≤ 4294967296 := by
              have h1 := tl_cut 58 y
              have h2 := tl_ge (cutL 58 y)
              have h3 := HLy.out
              rw [hts]
              omega
            obtain ⟨gb, cur, rfl, hbB, hcell⟩ := own_strB hO hpos
            have HCL := Lib.hid hcell
            have HBB := Lib.hid hbB
            have HTS := Lib.hid hts
            have PB4 := Lib.hid (PB.out.fr hf id)
            have HI4 := Lib.hid (Ix.mk' (l := L) rfl rfl (O0.out.fr hf fun _ _ h => h) G0.out (F0.out.trans hf))
            obtain ⟨n, hn⟩ : ∃ n, n = ts.length := ⟨_, rfl⟩
            rw [← hn] at hnl hpos ⊢
            have HN := Lib.hid hn
            clear hO hg hf hcell hbB hts hn p0 p1 O0 G0 F0 PB he
            go_wp2_with fail
            go_loopw [8, 12] (fun v i wr2 => ∃ (j : Nat) (us : List Nat), j ≤ n ∧ i = .int .i64 (j : Int) ∧ Hid (hexs (ts.take j) = some us) ∧ Ix w wr2 v (L ++ us) ∧ Blk wr2 gp 9 #[.string (bA x), .string (bA y)] ∧ Blk wr2 gb 9 cur) (fun _ i _ => n + 1 - (intOf i).toNat)
            case atStart => exact ⟨0, [], by omega, rfl, Lib.hid rfl, by rw [List.append_nil]; exact HI4.out, PB4.out, HBB.out⟩
            case round =>
              obtain ⟨j, us, hj, rfl, hR, ⟨A, c, rfl, hO, hg, hF⟩, hP, hB⟩ := hrel
              have O1 := Lib.hid hO
              have G1 := Lib.hid hg
              have F1 := Lib.hid hF
              have PB := Lib.hid hP
              have BB := Lib.hid hB
              clear hO hg hF hP hB PB4 HBB HI4
              by_cases hjn : j < n
              · have hjI : (j : Int) < (n : Int) := by omega
                obtain ⟨t, ht⟩ : ∃ t, ts[j]? = some t := ⟨ts[j]'(by rw [← HN.out]; exact hjn), List.getElem?_eq_getElem _⟩
                have y0 := (BB.out.cell j).trans (HCL.out _ _ ht)
                have kg := fun (W : World) => rgrp (w := W) (bA t)
                have hsn := hexs_snoc (ts.take j) t
                have e1 : ts.take j ++ [t] = ts.take (j + 1) := by
                  obtain ⟨h1, h2⟩ := List.getElem?_eq_some_iff.1 ht
                  rw [List.take_succ_eq_append_getElem h1, h2]
                have hus := hexs_len _ _ hR.out
                rw [List.length_take] at hus
                rw [e1, hR.out] at hsn
                rw [bA_list] at kg
                have HUS := Lib.hid hus
                cases hx : num16 t with
                | none =>
                  have HNO := Lib.hid (hexs_none ts j t ht hx)
                  rw [hx] at kg
                  clear ht e1 hsn hus hx hR
                  go_wp2_with (go_at_call 61; refine (kg _).mono ?_; rintro e w5 ⟨rfl, rfl⟩)
                  go_ret3
                  have hbad : rowP (bA y) = none := by rw [rowP_ne HEy.out, ← HTS.out, HNO.out]
                  refine ⟨fun X Y _ h => ?_, fun _ => rfl, F1.out⟩
                  rw [hbad] at h
                  cases h
                | some u =>
                  rw [hx] at kg hsn
                  have HSN := Lib.hid hsn
                  clear ht e1 hsn hx hR hus
                  obtain ⟨N, hN⟩ : ∃ N, N = (L ++ us).length := ⟨_, rfl⟩
                  rw [← hN] at O1 ⊢
                  have HLN := Lib.hid hN.symm
                  have hNj : N ≤ 4294967296 * 2 := by have := HUS.out; have := HLL.out; rw [List.length_append] at hN; omega
                  clear hN
                  obtain ⟨i0, hi, hz0, hz1, hz2⟩ := info_parts infoI
                  unfold oI at kg
                  go_wp2_with (first
                    | (go_at_call 61; refine (kg _).mono ?_; rintro e w5 ⟨rfl, rfl⟩)
                    | (at_builtin; refine wpList_append1 wr rfl (.tmp 82) (.tmp 84) 65 rfl 3 i0 (.int .i64 0) 1 8 Tryz.underlying65 hi hz0 hz1 hz2 rfl (by omega) A N c _ rfl O1.out [.int .i64 (u : Int)] rfl rfl ?_ ?_ ?_ ?_))
                  · simp [Value.oneCell']
                  · omega
                  · omega
                  · intro g' c' w' hO' hF' hA'
                    have HB := Lib.hid (Ix.step G1.out F1.out HLN.out (show Own w' 3 1 (some ⟨g', 0, none⟩) (N + 1) c' ((L ++ us).map i64u ++ [.int .i64 (u : Int)]) by rw [List.map_append, List.append_assoc]; exact hO') hF' hA' rfl)
                    have PB5 := Lib.hid (keep_str O1.out hF' PB.out)
                    have BB5 := Lib.hid (keep_str O1.out hF' BB.out)
                    clear hO' hF' hA'
                    go_wp2_with fail
                    go_roundw
                    case rel => exact ⟨j + 1, us ++ [u], by omega, by go_num, HSN, by rw [← List.append_assoc]; exact HB.out, PB5.out, BB5.out⟩
                    case measure => first | (simp [intOf]; done) | (simp [intOf]; omega)
              · obtain rfl : j = n := by omega
                have HR := Lib.hid (show rowP (bA y) = some us by
                  have := hR.out
                  rw [List.take_of_length_le (by rw [← HN.out]; exact Nat.le_refl _), HTS.out] at this
                  rw [rowP_ne HEy.out]
                  exact this)
                have HUL := Lib.hid (show us.length ≤ 4294967296 by have := hexs_len _ _ hR.out; rw [List.length_take] at this; omega)
                clear hR
                go_wp2_with fail
                go_roundw
                case rel => exact ⟨L ++ us, .inr (.inr ⟨rfl, L, us, HX, HR, Lib.hid rfl, rfl⟩), Ix.mk' rfl rfl O1.out G1.out F1.out, Lib.hid (by have := HUL.out; have := HLL.out; rw [List.length_append]; omega), PB.out⟩
                case measure => first | (simp [intOf]; done) | (simp [intOf]; omega)
        · have F1 := Lib.hid (show Fr N0 w wr from HI.out.choose_spec.choose_spec.2.2.2)
          have hL : L = X ++ Y := HXY.out
          subst hL
          go_wp2_with fail
          go_ret3
          refine ⟨fun X' Y' h h' => ?_, fun h => ?_, F1.out⟩
          · rw [HX.out] at h
            rw [HY.out] at h'
            cases h
            cases h'
            exact ⟨_, rfl, HI.out⟩
          · rw [HX.out, HY.out] at h
            rcases h with h | h <;> cases h
end
end Go.Proofs.YtcameghlkplgfaaGreatDoor
