/- Whatever text is read as an address: it is a right one, and the text that it is told as is longer by one byte at most. Plainly. AddrShort: what it answers at texts that are not too long. -/
import Derived.Test.YtejddfgmfdpnfaaDoorKd
import Derived.Test.YtejddfgmfdpnfaaDoorKf
namespace Go.Proofs.YtejddfgmfdpnfaaDoor
open Go.Proofs Go.Shelf Go.RowKit
/-- The bytes of a row of texts, one more for each. -/
def tl : List (List UInt8) → Nat
  | [] => 0
  | t :: ts => t.length + 1 + tl ts
def nl : List Nat → Nat
  | [] => 0
  | u :: us => nh u + 1 + nl us
theorem nl_app : ∀ (a b : List Nat), nl (a ++ b) = nl a + nl b
  | [], b => by simp [nl]
  | u :: a, b => by
    have := nl_app a b
    simp only [List.cons_append, nl]
    omega
theorem nl_zero : ∀ n, nl (List.replicate n 0) = 2 * n
  | 0 => rfl
  | n + 1 => by
    have := nl_zero n
    rw [List.replicate_succ, nl, this]
    have : nh 0 = 1 := by decide
    omega
theorem tl_cut (c : UInt8) : ∀ (l : List UInt8), tl (cutL c l) = l.length + 1
  | [] => rfl
  | x :: l => by
    have ih := tl_cut c l
    obtain ⟨t, r, e⟩ := cutL_ne c l
    unfold cutL
    rw [e] at ih ⊢
    split
    · rw [tl, ih]; simp; omega
    · simp only [tl, List.length_cons] at ih ⊢
      omega
theorem nh_num {t : List UInt8} {u : Nat} (h : num16 t = some u) : nh u ≤ t.length := by
  unfold num16 at h
  split at h
  · cases h
  · have h1 := hexG_lt t 0 u h
    have hl : t.length = 1 ∨ t.length = 2 ∨ t.length = 3 ∨ t.length = 4 := by omega
    have h4 := (nh_le u).2
    unfold nh at h4 ⊢
    rcases hl with e | e | e | e <;> rw [e] at h1 ⊢ <;> simp at h1 <;> (repeat' split) <;> omega
theorem nl_hexs : ∀ (ts : List (List UInt8)) (us : List Nat), hexs ts = some us → nl us ≤ tl ts
  | [], us, h => by cases h; simp [nl]
  | t :: ts, us, h => by
    unfold hexs at h
    cases h1 : num16 t with
    | none => rw [h1] at h; cases h
    | some u =>
      cases h2 : hexs ts with
      | none => rw [h1, h2] at h; cases h
      | some vs =>
        rw [h1, h2] at h
        cases h
        have a := nh_num h1
        have b := nl_hexs ts vs h2
        simp only [nl, tl]
        omega
/-- What a text of groups is read as has no more digits than it. -/
theorem rowP_nl {s : ByteArray} {us : List Nat} (h : rowP s = some us) : nl us ≤ s.size + (if us = [] then 0 else 1) ∧ (us = [] → s.size = 0) := by
  unfold rowP at h
  split at h
  · rename_i h0
    cases h
    exact ⟨Nat.zero_le _, fun _ => h0⟩
  · rw [spl_cut] at h
    have h1 := nl_hexs _ _ h
    rw [tl_cut, show s.data.toList.length = s.size from Lib.size_eq s] at h1
    have h2 := hexs_len _ _ h
    obtain ⟨t, r, e⟩ := cutL_ne 58 s.data.toList
    have hne : us ≠ [] := by
      intro e2
      rw [e2, e] at h2
      simp at h2
    rw [if_neg hne]
    exact ⟨h1, fun e => absurd e hne⟩
theorem tl_join (c : UInt8) : ∀ (ts : List (List UInt8)), ts ≠ [] → (Lib.join ts [c]).length + 1 = tl ts
  | [], h => absurd rfl h
  | [t], _ => by rw [join_one]; simp [tl]
  | t :: u :: r, _ => by
    have := tl_join c (u :: r) (by simp)
    rw [join_two]
    simp only [tl, List.length_append, List.length_cons] at this ⊢
    omega
theorem tl_hx : ∀ (us : List Nat), tl (us.map hxT) = nl us
  | [] => rfl
  | u :: us => by
    rw [List.map_cons, tl, nl, tl_hx us, hxT_len]
theorem txG_nl (us : List Nat) : (txG us).size + (if us = [] then 0 else 1) = nl us := by
  rw [txG_bA, bA_size]
  by_cases h : us = []
  · subst h
    rfl
  · rw [if_neg h, tl_join _ _ (by simpa using h), tl_hx]
theorem atS_max (us : List Nat) : ∀ i j, j ≤ i → zr us j 8 ≤ zr us (atS us i) 8
  | 0, j, h => by
    obtain rfl : j = 0 := by omega
    exact Nat.le_refl _
  | i + 1, j, h => by
    have ih := fun h => atS_max us i j h
    have ih2 := atS_max us i i (Nat.le_refl _)
    unfold atS
    split
    · by_cases e : j = i + 1
      · subst e; exact Nat.le_refl _
      · have := ih (by omega); omega
    · by_cases e : j = i + 1
      · subst e; omega
      · exact ih (by omega)
theorem zr_ge (us : List Nat) : ∀ (d i n : Nat), d ≤ n → (∀ t, t < d → us[i + t]? = some 0) → d ≤ zr us i n
  | 0, _, _, _, _ => Nat.zero_le _
  | d + 1, i, 0, h, _ => by omega
  | d + 1, i, n + 1, h, hz => by
    have h0 : us[i]? = some 0 := hz 0 (by omega)
    have := zr_ge us d (i + 1) n (by omega) (fun t ht => by rw [show i + 1 + t = i + (t + 1) by omega]; exact hz (t + 1) (by omega))
    unfold zr
    rw [if_pos h0]
    omega
theorem nl_split {us : List Nat} {a b : Nat} (hab : a ≤ b) (hb : b ≤ us.length) (hz : ∀ t, a ≤ t → t < b → us[t]? = some 0) : nl us = nl (us.take a) + 2 * (b - a) + nl (us.drop b) := by
  have e : us = us.take a ++ (List.replicate (b - a) 0 ++ us.drop b) := by
    apply List.ext_getElem?
    intro k
    have e1 : (us.take a).length = a := by rw [List.length_take]; omega
    by_cases h1 : k < a
    · rw [List.getElem?_append_left (by omega), List.getElem?_take, if_pos h1]
    · rw [List.getElem?_append_right (by omega), e1]
      by_cases h2 : k < b
      · rw [List.getElem?_append_left (by rw [List.length_replicate]; omega), List.getElem?_replicate, if_pos (by omega), hz k (by omega) h2]
      · rw [List.getElem?_append_right (by rw [List.length_replicate]; omega), List.length_replicate, List.getElem?_drop]
        congr 1
        omega
  have := congrArg nl e
  rw [nl_app, nl_app, nl_zero] at this
  omega
theorem nil_len {us : List Nat} : (if us = [] then 0 else 1) = (if us.length = 0 then 0 else 1) := by
  cases us <;> simp
theorem manyM_zero (us : List Nat) (t : Nat) (h1 : atM us ≤ t) (h2 : t < atM us + manyM us) : us[t]? = some 0 := by
  have := zr_zero us 8 (atM us) (t - atM us) (by unfold manyM at h2; omega)
  rwa [show atM us + (t - atM us) = t by omega] at this
/-- The size of the text of groups. -/
theorem txt6_nl {us : List Nat} (h8 : us.length = 8) : (txt6 us).size = if 1 < manyM us then nl us + 2 - 2 * manyM us - (if atM us = 0 then 0 else 1) - (if atM us + manyM us = 8 then 0 else 1) else nl us - 1 := by
  have hm := manyM_le h8
  rw [txt6_at]
  by_cases h : 1 < manyM us
  · rw [if_pos h, if_pos h]
    have a := txG_nl (us.take (atM us))
    have b := txG_nl (us.drop (atM us + manyM us))
    have c := nl_split (us := us) (show atM us ≤ atM us + manyM us by omega) (by omega) (manyM_zero us)
    rw [nil_len, List.length_take] at a
    rw [nil_len, List.length_drop] at b
    rw [ByteArray.size_append, ByteArray.size_append, show (⟨#[58, 58]⟩ : ByteArray).size = 2 from rfl]
    have a1 : (if min (atM us) us.length = 0 then 0 else 1) = (if atM us = 0 then 0 else 1) := by
      have : min (atM us) us.length = atM us := by omega
      rw [this]
    have b1 : (if us.length - (atM us + manyM us) = 0 then 0 else 1) = (if atM us + manyM us = 8 then 0 else 1) := by
      by_cases e : atM us + manyM us = 8
      · rw [if_pos (by omega), if_pos e]
      · rw [if_neg (by omega), if_neg e]
    rw [a1] at a
    rw [b1] at b
    generalize nl us = N at *
    generalize nl (us.take (atM us)) = A at *
    generalize nl (us.drop (atM us + manyM us)) = B at *
    generalize (txG (us.take (atM us))).size = x at *
    generalize (txG (us.drop (atM us + manyM us))).size = y at *
    split at a <;> split at b <;> simp_all <;> omega
  · rw [if_neg h, if_neg h]
    have a := txG_nl us
    rw [nil_len, h8] at a
    simp at a
    omega
theorem grp_len {X Y : List Nat} (h : X.length + Y.length ≤ 8) : (grp X Y).length = 8 := by
  unfold grp
  simp
  omega
theorem nl_len (X : List Nat) : ((if X = [] then 0 else 1) = 0 ∧ X.length = 0 ∧ nl X = 0) ∨ ((if X = [] then 0 else 1) = 1 ∧ 1 ≤ X.length) := by
  cases X with
  | nil => exact .inl ⟨rfl, rfl, rfl⟩
  | cons u r => exact .inr ⟨rfl, by simp⟩
/-- Of groups with a :: among them. -/
theorem txt6_gap {X Y : List Nat} (h7 : X.length + Y.length ≤ 7) {P Q : Nat} (hP : nl X ≤ P + (if X = [] then 0 else 1)) (hQ : nl Y ≤ Q + (if Y = [] then 0 else 1)) : (txt6 (grp X Y)).size ≤ P + Q + 3 := by
  have hN : nl (grp X Y) = nl X + 2 * (8 - (X.length + Y.length)) + nl Y := by
    unfold grp
    rw [nl_app, nl_app, nl_zero]
    omega
  have h8 := grp_len (show X.length + Y.length ≤ 8 by omega)
  have hz : 8 - (X.length + Y.length) ≤ manyM (grp X Y) := by
    have h1 := zr_ge (grp X Y) (8 - (X.length + Y.length)) X.length 8 (by omega) (by
      intro t ht
      unfold grp
      rw [List.getElem?_append_right (by omega), List.getElem?_append_left (by rw [List.length_replicate]; omega), List.getElem?_replicate, if_pos (by omega)])
    have h2 := atS_max (grp X Y) 7 X.length (by omega)
    unfold manyM atM
    omega
  have hm := manyM_le h8
  have hs := txt6_nl h8
  have hx := nl_len X
  have hy := nl_len Y
  rw [hN] at hs
  generalize (txt6 (grp X Y)).size = S at *
  generalize manyM (grp X Y) = k at *
  generalize atM (grp X Y) = a at *
  generalize nl X = p at *
  generalize nl Y = q at *
  generalize (if X = [] then 0 else 1) = x0 at *
  generalize (if Y = [] then 0 else 1) = y0 at *
  split at hs
  · split at hs <;> split at hs <;> omega
  · omega
theorem txt6_full {us : List Nat} (h8 : us.length = 8) {P : Nat} (hP : nl us ≤ P + 1) : (txt6 us).size ≤ P := by
  have hm := manyM_le h8
  have hs := txt6_nl h8
  split at hs
  · split at hs <;> split at hs <;> omega
  · omega
theorem gsA_adG {us : List Nat} (h8 : us.length = 8) (hlt : ∀ u ∈ us, u < 65536) : gsA (adG us) = us := by
  match us, h8 with
  | [a, b, c, d, e, f, g, h], _ =>
    have ha := hlt a (by simp)
    have hb := hlt b (by simp)
    have hc := hlt c (by simp)
    have hd := hlt d (by simp)
    have he := hlt e (by simp)
    have hf := hlt f (by simp)
    have hg := hlt g (by simp)
    have hh := hlt h (by simp)
    clear hlt
    unfold gsA adG grA jn
    simp [List.range_succ]
    omega
theorem adG_ok {us : List Nat} (h8 : us.length = 8) (hlt : ∀ u ∈ us, u < 65536) : (adG us).ok := by
  unfold adG Ad.ok
  exact ⟨jn_lt 4 _ (by simp; omega) fun u hu => hlt u (List.mem_of_mem_take hu), jn_lt 4 _ (by simp; omega) fun u hu => hlt u (List.mem_of_mem_drop hu)⟩
theorem oct_len : ∀ {t : List UInt8} {u : Nat}, octP t = some u → (Lib.decDigits u).length ≤ t.length := by
  intro t u h
  have h256 := octP_lt h
  unfold octP at h
  cases hn : num10 t with
  | none => rw [hn] at h; cases h
  | some v =>
    rw [hn] at h
    simp only at h
    split at h
    · cases h
    · cases h
      unfold num10 at hn
      split at hn
      · cases hn
      · have h1 := decG_lt t 0 u hn
        have h3 := dd_le3 h256
        have h10 : ∀ x, x < 256 → (Lib.decDigits x).length = if x < 10 then 1 else if x < 100 then 2 else 3 := by decide +kernel
        rw [h10 u h256] at h3 ⊢
        have hl : t.length = 1 ∨ t.length = 2 ∨ t.length = 3 := by omega
        rcases hl with e | e | e <;> rw [e] at h1 ⊢ <;> simp at h1 <;> (repeat' split) <;> omega
theorem tl_octs : ∀ (ts : List (List UInt8)) (us : List Nat), octs ts = some us → tl (us.map Lib.decDigits) ≤ tl ts
  | [], us, h => by cases h; simp [tl]
  | t :: ts, us, h => by
    simp only [octs] at h
    cases h1 : octP t with
    | none => rw [h1] at h; cases h
    | some u =>
      cases h2 : octs ts with
      | none => rw [h1, h2] at h; cases h
      | some vs =>
        rw [h1, h2] at h
        cases h
        have a := oct_len h1
        have b := tl_octs ts vs h2
        simp only [List.map_cons, tl]
        omega
theorem acc_bytes {us : List Nat} (h4 : us.length = 4) (hlt : ∀ u ∈ us, u < 256) : acc us < 4294967296 ∧ bytesA ⟨false, 0, acc us⟩ = us := by
  match us, h4 with
  | [a, b, c, d], _ =>
    have ha := hlt a (by simp)
    have hb := hlt b (by simp)
    have hc := hlt c (by simp)
    have hd := hlt d (by simp)
    clear hlt
    rw [bytes_lo]
    unfold acc byteA
    simp [List.range_succ]
    omega
/-- Whatever is read as an address. -/
theorem parse_short (s : ByteArray) : ((parseA s).2 = 0 ∧ validA (parseA s).1 = true ∧ (parseA s).1.ok ∧ (txtA (parseA s).1).size ≤ s.size + 1) ∨ parseA s = (⟨false, 0, 0⟩, 20) := by
  unfold parseA
  cases hF : fourP ((spl 46 s).map (·.data.toList)) with
  | some lo =>
    left
    unfold parseR
    simp only
    unfold fourP at hF
    split at hF
    · rename_i h4
      cases ho : octs ((spl 46 s).map (·.data.toList)) with
      | none => rw [ho] at hF; cases hF
      | some us =>
        rw [ho] at hF
        cases hF
        have hl := (octs_len _ _ ho).trans h4
        have h256 := octs_lt _ _ ho
        obtain ⟨hlt, hb⟩ := acc_bytes hl h256
        refine ⟨trivial, by simp [validA, hlt], ⟨by simp, by simp only; omega⟩, ?_⟩
        unfold txtA
        rw [if_neg (by simp)]
        have h1 := tl_octs _ _ ho
        rw [spl_cut, tl_cut, show s.data.toList.length = s.size from Lib.size_eq s] at h1
        simp only
        rw [txt4_bA, hb, bA_size]
        have h2 := tl_join 46 (us.map Lib.decDigits) (by intro e; have := congrArg List.length e; simp at this; rw [this] at hl; cases hl)
        omega
    · cases hF
  | none =>
    cases hS : sixP s with
    | none => right; rfl
    | some a =>
      left
      unfold parseR
      simp only
      unfold sixP sixR at hS
      cases hX : rowP (bA (Lib.cut s.data.toList [58, 58]).1) with
      | none => rw [hX] at hS; cases hS
      | some X =>
        cases hY : rowP (bA (Lib.cut s.data.toList [58, 58]).2.1) with
        | none => rw [hX, hY] at hS; cases hS
        | some Y =>
          rw [hX, hY] at hS
          simp only at hS
          have x16 := rowP_lt hX
          have y16 := rowP_lt hY
          have x1 := rowP_nl hX
          have y1 := rowP_nl hY
          rw [bA_size] at x1 y1
          have hlen : s.data.toList.length = s.size := Lib.size_eq s
          have g16 : ∀ u ∈ grp X Y, u < 65536 := by
            intro u hu
            unfold grp at hu
            rcases List.mem_append.1 hu with h | h
            · exact x16 u h
            · rcases List.mem_append.1 h with h | h
              · have := List.eq_of_mem_replicate h; omega
              · exact y16 u h
          cases hb : (Lib.cut s.data.toList [58, 58]).2.2 with
          | true =>
            rw [hb] at hS
            split at hS
            · cases hS
            · rename_i hn
              have h7 : X.length + Y.length ≤ 7 := by simp at hn; omega
              cases hS
              have h8 := grp_len (show X.length + Y.length ≤ 8 by omega)
              refine ⟨trivial, rfl, adG_ok h8 g16, ?_⟩
              unfold txtA
              rw [if_pos (show (adG (grp X Y)).six = true from rfl), gsA_adG h8 g16]
              have h1 := txt6_gap h7 x1.1 y1.1
              have h2 : (Lib.cut s.data.toList [58, 58]).1.length + 2 + (Lib.cut s.data.toList [58, 58]).2.1.length = s.size := by
                have hr := Lib.index_room s.data.toList [58, 58]
                unfold Lib.cut at hb ⊢
                split at hb
                · rename_i h0
                  rw [if_pos h0]
                  have := hr h0
                  simp only [List.length_take, List.length_drop, List.length_cons, List.length_nil] at this ⊢
                  omega
                · cases hb
              omega
          | false =>
            rw [hb] at hS
            split at hS
            · cases hS
            · rename_i hn
              have h8' : X.length + Y.length = 8 := by simp at hn; omega
              cases hS
              have h2 : (Lib.cut s.data.toList [58, 58]).1 = s.data.toList ∧ (Lib.cut s.data.toList [58, 58]).2.1 = [] := by
                unfold Lib.cut at hb ⊢
                split at hb
                · cases hb
                · rename_i h0
                  rw [if_neg h0]
                  exact ⟨rfl, rfl⟩
              rw [h2.2] at hY
              rw [h2.1] at x1
              have : Y = [] := by
                have : rowP (bA []) = some [] := rfl
                rw [this] at hY
                cases hY
                rfl
              subst this
              have h8 := grp_len (show X.length + ([] : List Nat).length ≤ 8 by omega)
              have e : grp X [] = X := by
                unfold grp
                simp at h8' ⊢
                omega
              rw [e] at g16 ⊢
              have hX8 : X.length = 8 := by simpa using h8'
              refine ⟨trivial, rfl, adG_ok hX8 g16, ?_⟩
              unfold txtA
              rw [if_pos (show (adG X).six = true from rfl), gsA_adG hX8 g16]
              have h3 := txt6_full hX8 (P := s.size) (by have := x1.1; split at this <;> omega)
              omega
end Go.Proofs.YtejddfgmfdpnfaaDoor
namespace Go.Proofs.YtejddfgmfdpnfaaDoor
open Go.Proofs Go.Shelf Go.RowKit
set_option maxHeartbeats 6400000 in
set_option maxRecDepth 100000 in
theorem ash_no (w : World) (s : ByteArray) (hs : s.size < 4294967281) (hp : parseA s = (⟨false, 0, 0⟩, 20)) (m : Int) (hm : Mx m w) (hd : D4 w) (hsy : Sy w) :
    Calls Tryd.prog 6 #[.string s] w fun e w' => e = .returned (.bool true) ∧ Fr N0 w w' := by
  have ka := fun (W : World) (h : Fr N0 w W) => awake3 (w := W) m (hm.fr h) (hsy.fr h) (hd.fr h)
  have kp := fun (W : World) (h : Fr N0 w W) => parse_any (w := W) s m hs (hm.fr h) (hsy.fr h)
  rw [hp] at kp
  have eA := fun (W : World) => eql_ad ⟨false, 0, 0⟩ ⟨false, 0, 0⟩ W
  have qA := fun X Y W => guard_ad .eql X Y ⟨false, 0, 0⟩ ⟨false, 0, 0⟩ W
  rw [decide_eq_true rfl] at eA
  unfold adV at *
  have KA := Lib.hid ka
  have KP := Lib.hid kp
  clear hm hd hsy hp ka kp hs
  go_enter Tryd.func6, Tryd.ntmps6
  go_wp2_with fail
  refine (KA.out _ (Fr.refl _ _)).mono ?_
  rintro e w2 ⟨rfl, hf⟩
  have F := Lib.hid hf
  go_wp2_with fail
  refine (KP.out _ F.out).mono ?_
  rintro e w3 ⟨rfl, hf⟩
  have F := Lib.hid (F.out.trans hf)
  go_wp2_with fail
  go_ret
  exact ⟨rfl, F.out.alloc _⟩
set_option maxHeartbeats 6400000 in
set_option maxRecDepth 100000 in
theorem ash_yes (w : World) (s : ByteArray) (hs : s.size < 4294967281) (a : Ad) (hp : parseA s = (a, 0)) (ho : a.ok) (hv : validA a = true) (hz : (txtA a).size ≤ s.size + 1) (m : Int) (hm : Mx m w) (ht : T10 w) (hd : D4 w) (hsy : Sy w) :
    Calls Tryd.prog 6 #[.string s] w fun e w' => e = .returned (.bool true) ∧ Fr N0 w w' := by
  have ka := fun (W : World) (h : Fr N0 w W) => awake3 (w := W) m (hm.fr h) (hsy.fr h) (hd.fr h)
  have kp := fun (W : World) (h : Fr N0 w W) => parse_any (w := W) s m hs (hm.fr h) (hsy.fr h)
  rw [hp] at kp
  have kt := fun (W : World) (h : Fr N0 w W) => prt_ (w := W) a (ht.fr h) (hd.fr h)
  have kq := fun (W : World) (h : Fr N0 w W) => parse_txt (w := W) a ho hv m (hm.fr h) (hsy.fr h)
  have kv := fun (W : World) => aval (w := W) a
  unfold prtA at kt
  rw [hv] at kt kv
  rw [if_pos rfl] at kt
  generalize txtA a = T at *
  have eA := fun (W : World) => eql_ad a a W
  have qA := fun X Y W => guard_ad .eql X Y a a W
  rw [decide_eq_true rfl] at eA
  obtain ⟨s1, h, l⟩ := a
  unfold adV at *
  have KA := Lib.hid ka
  have KP := Lib.hid kp
  have KT := Lib.hid kt
  have KQ := Lib.hid kq
  clear hm ht hd hsy hp ho hv ka kp kt kq
  have hs2 : s.size ≤ 4294967281 := by omega
  go_enter Tryd.func6, Tryd.ntmps6
  go_wp2_with fail
  refine (KA.out _ (Fr.refl _ _)).mono ?_
  rintro e w2 ⟨rfl, hf⟩
  have F := Lib.hid hf
  go_wp2_with fail
  refine (KP.out _ F.out).mono ?_
  rintro e w3 ⟨rfl, hf⟩
  have F3 := Lib.hid (F.out.trans hf)
  go_wp2_with fail
  have F4 := Lib.hid (F3.out.alloc (.cells #[.bool s1, .int .u64 (h : Int), .int .u64 (l : Int)] 25))
  have B4 := Lib.hid (Blk.new w3 25 #[.bool s1, .int .u64 (h : Int), .int .u64 (l : Int)])
  clear hf
  generalize w3.alloc _ = w4 at *
  generalize w3.heap.size = g4 at *
  obtain ⟨a0, a1, a2⟩ := B4.out.c3
  refine (KT.out _ F4.out).mono ?_
  rintro e w5 ⟨rfl, hf⟩
  have F5 := Lib.hid (F4.out.trans hf)
  have B5 := Lib.hid (B4.out.fr hf id)
  clear a0 a1 a2 B4 hf
  go_wp2_with fail
  refine (KQ.out _ F5.out).mono ?_
  rintro e w6 ⟨rfl, hf⟩
  have F6 := Lib.hid ((F5.out.trans hf).alloc (.cells #[.bool s1, .int .u64 (h : Int), .int .u64 (l : Int)] 25))
  obtain ⟨a0, a1, a2⟩ := ((B5.out.fr hf id).alloc (.cells #[.bool s1, .int .u64 (h : Int), .int .u64 (l : Int)] 25)).c3
  obtain ⟨b0, b1, b2⟩ := (Blk.new w6 25 #[.bool s1, .int .u64 (h : Int), .int .u64 (l : Int)]).c3
  clear hf B5
  have hzI : (T.size : Int) ≤ (s.size : Int) + 1 := by omega
  go_wp2_with (go_at_call 18; refine (kv _).mono ?_; rintro e w7 ⟨rfl, hf⟩)
  go_ret
  exact ⟨rfl, F6.out.trans hf⟩
theorem ash_walk (W : World) (hS : W.ShapedOpen Tryd.prog) (ht : T10 W ∧ D4 W ∧ Sy W) (s : ByteArray) (hs : s.size ≤ 1048576) :
    Calls Tryd.prog 6 #[.string s] W fun e w' => e = .returned (.bool true) ∧ Below W.heap.size W w' := by
  obtain ⟨m, hm⟩ := mx_of hS
  rcases parse_short s with ⟨h1, h2, h3, h4⟩ | h
  · exact (ash_yes W s (by omega) (parseA s).1 (by rw [← h1]) h3 h2 h4 m hm ht.1 ht.2.1 ht.2.2).mono fun e w' ⟨he, hf⟩ => ⟨he, hf.below (Nat.le_refl _) fun _ _ h => h.elim⟩
  · exact (ash_no W s (by omega) h m hm ht.2.1 ht.2.2).mono fun e w' ⟨he, hf⟩ => ⟨he, hf.below (Nat.le_refl _) fun _ _ h => h.elim⟩
end Go.Proofs.YtejddfgmfdpnfaaDoor
