/- AddrSpelt's spelling of a group. AddrSpelt: what it answers. -/
import Derived.Test.YtejddfgmfdpnfaaDoorKd
import Derived.Test.YtejddfgmfdpnfaaDoorKh
import Derived.Test.YtejddfgmfdpnfaaDoorKg
namespace Go.Proofs.YtejddfgmfdpnfaaDoor
open Go.Proofs Go.Shelf Go.RowKit
def up (c : UInt8) : UInt8 := if 97 ≤ c.toNat then c - 32 else c
theorem up_hex : ∀ n, n < 256 → ∀ d, hexD (UInt8.ofNat n).toNat = some d → hexD (up (UInt8.ofNat n)).toNat = some d := by decide +kernel
theorem up_hex' (c : UInt8) {d : Nat} (h : hexD c.toNat = some d) : hexD (up c).toNat = some d := by
  have e : UInt8.ofNat c.toNat = c := by simp
  have := up_hex c.toNat c.toNat_lt d
  rw [e] at this
  exact this h
theorem hexG_up : ∀ (t : List UInt8) (a u : Nat), hexG a t = some u → hexG a (t.map up) = some u
  | [], _, _, h => h
  | c :: t, a, u, h => by
    rw [List.map_cons]
    unfold hexG at h ⊢
    cases hd : hexD c.toNat with
    | none => rw [hd] at h; simp at h
    | some d =>
      rw [hd] at h
      rw [up_hex' c hd]
      exact hexG_up t _ u h
theorem Gt.up {t : List UInt8} {u : Nat} (h : Gt t u) : Gt (t.map up) u :=
  ⟨fun e => h.ne (by simpa using e), by rw [List.length_map]; exact h.le, hexG_up t 0 u h.val⟩
theorem Gt.zero {t : List UInt8} {u : Nat} (h : Gt t u) (hl : t.length < 4) : Gt (48 :: t) u :=
  ⟨by simp, by simp; omega, by
    have := h.val
    unfold hexG
    rw [show hexD (48 : UInt8).toNat = some 0 by decide]
    exact this⟩
theorem up_ge {c : UInt8} (h : 97 ≤ c.toNat) : ((up c).toNat : Int) = (c.toNat : Int) - 32 := by
  unfold up
  rw [if_pos h]
  have h1 : (32 : UInt8) ≤ c := by
    rw [UInt8.le_iff_toNat_le]
    have : (32 : UInt8).toNat = 32 := rfl
    omega
  rw [UInt8.toNat_sub_of_le _ _ h1]
  have : (32 : UInt8).toNat = 32 := rfl
  omega
theorem up_lt {c : UInt8} (h : ¬ 97 ≤ c.toNat) : up c = c := by
  unfold up
  rw [if_neg h]
theorem and4 (how : Int) (h0 : 0 ≤ how) (h7 : how ≤ 7) : bits .and .i64 how 4 = if 4 ≤ how then 4 else 0 := by
  have : how = 0 ∨ how = 1 ∨ how = 2 ∨ how = 3 ∨ how = 4 ∨ how = 5 ∨ how = 6 ∨ how = 7 := by omega
  rcases this with rfl | rfl | rfl | rfl | rfl | rfl | rfl | rfl <;> decide
theorem cv1 (W : World) (b : UInt8) (X : Int) (hX : X = (b.toNat : Int)) : (convert 30 9 (.slice (some ⟨W.heap.size, 0, none⟩) 1 1)).run Tryd.prog (W.alloc (.cells #[.int .u8 X] 5)) = .ok (.string ⟨#[b]⟩) (W.alloc (.cells #[.int .u8 X] 5)) := by
  subst hX
  exact run_convert_bytes_back (P := Tryd.prog) (W.alloc (.cells #[.int .u8 (b.toNat : Int)] 5)) 30 9 5 ⟨W.heap.size, 0, none⟩ 1 [b] Tryd.underlying30 Tryd.underlying5 Tryd.underlying9 (fun j hj => by
    obtain rfl : j = 0 := by simp at hj; omega
    exact (Blk.new W 5 #[.int .u8 (b.toNat : Int)]).cell 0)
section
variable {w : World}
set_option maxHeartbeats 3200000 in
set_option maxRecDepth 100000 in
theorem spel_ (n : Nat) (hn : n < 65536) (how : Int) (h0 : 0 ≤ how) (h7 : how ≤ 7) : Calls Tryd.prog 29 #[.int .u64 (n : Int), .int .i64 how] w fun e w' => ∃ t, e = .returned (.string (bA t)) ∧ Gt t n ∧ Fr N0 w w' := by
  have kd := fun (w : World) => dgs_ (w := w) 16 n (by omega) (by omega) (by omega)
  rw [dgl_hx hn] at kd
  have hg := gt_hx hn
  have h3 := i64_and3 how
  have h4 := and4 how h0 h7
  generalize hxT n = D at *
  have HG := Lib.hid hg
  have HDL := Lib.hid hg.le
  have hdl := hg.le
  clear hg hn
  go_enter Tryd.func29, Tryd.ntmps29
  go_wp2_with (go_at_call 41; refine (kd _).mono ?_; rintro e w5 ⟨rfl, rfl⟩)
  go_loop [5, 6] (fun s i => ∃ (j : Nat) (t : List UInt8), j ≤ 3 ∧ i = .int .i64 (j : Int) ∧ s = .string (bA t) ∧ Hid (Gt t n)) (fun _ i => 4 - (intOf i).toNat)
  case atStart => exact ⟨0, D, by omega, rfl, rfl, HG⟩
  case round =>
    obtain ⟨j, t, hj, rfl, rfl, hR⟩ := hrel
    have htl := hR.out.le
    have htne : 1 ≤ t.length := by
      have := hR.out.ne
      cases t with
      | nil => exact absurd rfl this
      | cons _ _ => simp
    have hsz := bA_size t
    by_cases hlt : (j : Int) < how % 4 ∧ t.length < 4
    · obtain ⟨l1, l2⟩ := hlt
      have HG2 := Lib.hid (hR.out.zero l2)
      have hj3 : j < 3 := by omega
      have l2I : ((bA t).size : Int) < 4 := by omega
      have HC := Lib.hid (bA_cat [48] t)
      clear hR
      go_wp2_with fail
      go_round
      case rel => exact ⟨j + 1, 48 :: t, by omega, by go_num, congrArg Value.string HC.out, HG2⟩
      case measure => simp [intOf]; omega
    · have hor : ¬ ((j : Int) < how % 4) ∨ ((j : Int) < how % 4 ∧ ¬ (((bA t).size : Int) < 4)) := by omega
      clear hlt
      by_cases h4le : 4 ≤ how
      · have h4t : bits .and .i64 how 4 = 4 := by rw [h4, if_pos h4le]
        clear h4
        rcases hor with hor | ⟨hor, hor2⟩
        all_goals
          generalize hS : bA t = S at *
          have hSl : S.data.toList = t := by rw [← hS, bA_list]
          have hU : ∃ U : List UInt8, U = t.map up := ⟨_, rfl⟩
          obtain ⟨U, hU⟩ := hU
          have HUj : Hid (∀ (j : Nat) (h : j < S.size), U[j]? = some (up (S[j]'h))) := Lib.hid fun j h => by
            rw [hU, List.getElem?_map, ← hSl, byte_at h]
            rfl
          have HUG : Hid (Gt U n) := Lib.hid (by rw [hU]; exact hR.out.up)
          have hsz4 : S.size ≤ 4 := by omega
          have HUL : Hid (U.length = S.size) := Lib.hid (by rw [hU, List.length_map]; exact hsz.symm)
          clear hS hSl hR hsz htl htne kd hU
          go_wp2_with fail
          go_loopw [7, 8] (fun o i wr => ∃ j : Nat, j ≤ S.size ∧ i = .int .i64 (j : Int) ∧ o = .string (bA (U.take j)) ∧ Fr N0 w wr) (fun _ i _ => 5 - (intOf i).toNat)
          case atStart => exact ⟨0, by omega, rfl, rfl, Fr.refl _ _⟩
          case round =>
            obtain ⟨j, hj, rfl, rfl, hF⟩ := hrel
            have F := Lib.hid hF
            clear hF
            by_cases hjs : j < S.size
            · have hjI : (j : Int) < (S.size : Int) := by omega
              have hc256 := (S[j]'hjs).toNat_lt
              have hnx : U.take (j + 1) = U.take j ++ [up (S[j]'hjs)] := by
                obtain ⟨q1, q2⟩ := List.getElem?_eq_some_iff.1 (HUj.out j hjs)
                rw [List.take_succ_eq_append_getElem q1, q2]
              have HNX := Lib.hid hnx
              have hTl : (bA (U.take j)).size ≤ 4 := by rw [bA_size, List.length_take]; have := HUL.out; omega
              have HCAT := Lib.hid (bA_cat (U.take j) [up (S[j]'hjs)])
              have hu1 := fun h => up_ge (c := S[j]'hjs) h
              have hu2 := fun h => up_lt (c := S[j]'hjs) h
              by_cases h97 : 97 ≤ (S[j]'hjs).toNat
              · have hcv := cv1 wr (up (S[j]'hjs)) ((S[j]'hjs).toNat - 32) (hu1 h97).symm
                generalize up (S[j]'hjs) = b at *
                clear hnx hu1 hu2
                generalize U.take j = Uj at *
                go_wp2_with fail
                go_roundw
                case rel => exact ⟨j + 1, by omega, by go_num, congrArg Value.string (by rw [HNX.out]; exact HCAT.out), F.out.alloc _⟩
                case measure => first | (simp [intOf]; done) | (simp [intOf]; omega)
              · have hcv := cv1 wr (up (S[j]'hjs)) ((S[j]'hjs).toNat : Int) (by rw [hu2 h97])
                generalize up (S[j]'hjs) = b at *
                clear hnx hu1 hu2
                generalize U.take j = Uj at *
                go_wp2_with fail
                go_roundw
                case rel => exact ⟨j + 1, by omega, by go_num, congrArg Value.string (by rw [HNX.out]; exact HCAT.out), F.out.alloc _⟩
                case measure => first | (simp [intOf]; done) | (simp [intOf]; omega)
            · obtain rfl : j = S.size := by omega
              have e : U.take S.size = U := List.take_of_length_le (by rw [HUL.out]; exact Nat.le_refl _)
              rw [e]
              clear e
              go_wp2_with fail
              go_ret
              exact ⟨_, rfl, HUG.out, F.out⟩
      · have h4t : bits .and .i64 how 4 = 0 := by rw [h4, if_neg h4le]
        clear h4
        rcases hor with hor | ⟨hor, hor2⟩
        all_goals
          go_wp2_with fail
          go_ret
          exact ⟨t, rfl, hR.out, Fr.refl _ _⟩
end
end Go.Proofs.YtejddfgmfdpnfaaDoor
namespace Go.Proofs.YtejddfgmfdpnfaaDoor
open Go.Proofs Go.Shelf Go.RowKit
theorem Gts.snoc : ∀ {ts : List (List UInt8)} {us : List Nat} {t : List UInt8} {u : Nat}, Gts ts us → Gt t u → Gts (ts ++ [t]) (us ++ [u])
  | [], [], _, _, _, h => ⟨h, trivial⟩
  | _ :: _, _ :: _, _, _, h, k => ⟨h.1, Gts.snoc h.2 k⟩
  | [], _ :: _, _, _, h, _ => h.elim
  | _ :: _, [], _, _, h, _ => h.elim
theorem gt_last {t : List UInt8} {u : Nat} (h : Gt t u) (l : List UInt8) : ∃ c, (l ++ t).getLast? = some c ∧ c ≠ 58 := by
  obtain ⟨c, hc⟩ : ∃ c, t.getLast? = some c := by
    cases e : t.getLast? with
    | none => exact absurd (List.getLast?_eq_none_iff.1 e) h.ne
    | some c => exact ⟨c, rfl⟩
  refine ⟨c, by rw [List.getLast?_append, hc]; rfl, ?_⟩
  rintro rfl
  exact h.colon (List.mem_of_getLast? hc)
theorem gts_last : ∀ {ts : List (List UInt8)} {us : List Nat}, Gts ts us → ts ≠ [] → ∀ l : List UInt8, ∃ c, (l ++ Lib.join ts [58]).getLast? = some c ∧ c ≠ 58
  | [], _, _, h, _ => absurd rfl h
  | [t], [u], h, _, l => by
    rw [join_one]
    exact gt_last h.1 l
  | [_], [], h, _, _ => h.elim
  | [_], _ :: _ :: _, h, _, _ => h.2.elim
  | _ :: _ :: _, [], h, _, _ => h.elim
  | t :: v :: r, u :: us, h, _, l => by
    have := gts_last h.2 (by simp) (l ++ t ++ [58])
    rw [join_two]
    simpa using this
theorem size4 {t : List UInt8} {u : Nat} (h : Gt t u) : (bA t).size ≤ 4 := by rw [bA_size]; exact h.le
def SpS (us : List Nat) (A i : Nat) (T : List UInt8) : Prop :=
  ((i ≤ A ∨ us[A]? ≠ some 0) ∧ ∃ ts, Gts ts (us.take i) ∧ T = Lib.join ts [58]) ∨
  (us[A]? = some 0 ∧ A + zr us A 8 ≤ i ∧ ∃ ts vs, Gts ts (us.take A) ∧ Gts vs ((us.drop (A + zr us A 8)).take (i - (A + zr us A 8))) ∧ T = Lib.join ts [58] ++ 58 :: 58 :: Lib.join vs [58])
theorem SpS.start (us : List Nat) (A : Nat) : SpS us A 0 [] := .inl ⟨.inl (Nat.zero_le _), [], trivial, rfl⟩
theorem zr_pos {us : List Nat} {A : Nat} (h : us[A]? = some 0) : 1 ≤ zr us A 8 := zr_ge us 1 A 8 (by omega) (fun t ht => by
  obtain rfl : t = 0 := by omega
  exact h)
theorem SpS.gap {us : List Nat} {A : Nat} {T : List UInt8} (h : SpS us A A T) (h0 : us[A]? = some 0) : SpS us A (A + zr us A 8) (T ++ [58, 58]) := by
  have hp := zr_pos h0
  rcases h with ⟨_, ts, h1, rfl⟩ | ⟨_, h2, _⟩
  · exact .inr ⟨h0, Nat.le_refl _, ts, [], h1, by rw [Nat.sub_self]; exact trivial, by rw [join_nil]⟩
  · omega
theorem take_snoc_ {us : List Nat} {i u : Nat} (h : us[i]? = some u) : us.take (i + 1) = us.take i ++ [u] := by
  obtain ⟨q1, q2⟩ := List.getElem?_eq_some_iff.1 h
  rw [List.take_succ_eq_append_getElem q1, q2]
theorem SpS.next {us : List Nat} {A i u : Nat} {T : List UInt8} (h : SpS us A i T) (hi : ¬ (i = A ∧ us[A]? = some 0)) (hu : us[i]? = some u) :
    (i = 0 ∧ ∀ t, Gt t u → SpS us A (i + 1) (T ++ t)) ∨ (0 < i ∧ (∃ c, T.getLast? = some c ∧ c ≠ 58) ∧ ∀ t, Gt t u → SpS us A (i + 1) (T ++ 58 :: t)) ∨ (0 < i ∧ T.getLast? = some 58 ∧ ∀ t, Gt t u → SpS us A (i + 1) (T ++ t)) := by
  have hlt := (List.getElem?_eq_some_iff.1 hu).1
  rcases h with ⟨hA, ts, h1, rfl⟩ | ⟨h0, hk, ts, vs, h1, h2, rfl⟩
  · have hA' : i + 1 ≤ A ∨ us[A]? ≠ some 0 := by
      by_cases e : us[A]? = some 0
      · left
        have : i ≠ A := fun q => hi ⟨q, e⟩
        rcases hA with h | h
        · omega
        · exact absurd e h
      · exact .inr e
    by_cases hi0 : i = 0
    · left
      subst hi0
      have : ts = [] := by
        have := h1.len
        simp at this
        exact this
      subst this
      refine ⟨rfl, fun t ht => .inl ⟨hA', [t], ?_, by rw [join_nil, join_one]; rfl⟩⟩
      rw [take_snoc_ hu]
      exact ⟨ht, trivial⟩
    · right; left
      have hne : ts ≠ [] := by
        rintro rfl
        have := h1.len
        rw [List.length_take] at this
        simp at this
        omega
      refine ⟨by omega, ?_, fun t ht => .inl ⟨hA', ts ++ [t], ?_, by rw [join_snoc _ _ _ hne]⟩⟩
      · have := gts_last h1 hne []
        simpa using this
      · rw [take_snoc_ hu]
        exact h1.snoc ht
  · have hz := zr_pos h0
    have hu' : (us.drop (A + zr us A 8))[i - (A + zr us A 8)]? = some u := by
      rw [List.getElem?_drop, show A + zr us A 8 + (i - (A + zr us A 8)) = i by omega]
      exact hu
    have hsn : (us.drop (A + zr us A 8)).take (i + 1 - (A + zr us A 8)) = (us.drop (A + zr us A 8)).take (i - (A + zr us A 8)) ++ [u] := by
      rw [show i + 1 - (A + zr us A 8) = i - (A + zr us A 8) + 1 by omega]
      exact take_snoc_ hu'
    right
    cases vs with
    | nil =>
      right
      refine ⟨by omega, by rw [join_nil]; simp, fun t ht => .inr ⟨h0, by omega, ts, [t], h1, ?_, ?_⟩⟩
      · rw [hsn]
        exact h2.snoc ht
      · rw [join_nil, join_one]
        simp
    | cons v vs =>
      left
      refine ⟨by omega, ?_, fun t ht => .inr ⟨h0, by omega, ts, v :: vs ++ [t], h1, ?_, ?_⟩⟩
      · have := gts_last h2 (by simp) (Lib.join ts [58] ++ [58, 58])
        simpa using this
      · rw [hsn]
        exact h2.snoc ht
      · rw [join_snoc _ _ _ (by simp)]
        simp
theorem SpS.done {us : List Nat} {A : Nat} {T : List UInt8} (h8 : us.length = 8) (h : SpS us A 8 T) (hA : A < 8) : parseA (bA T) = (adG us, 0) := by
  rcases h with ⟨_, ts, h1, rfl⟩ | ⟨h0, hk, ts, vs, h1, h2, rfl⟩
  · rw [List.take_of_length_le (by omega)] at h1
    exact parse_full h1 h8
  · have hz := zr_pos h0
    rw [List.take_of_length_le (by rw [List.length_drop]; omega)] at h2
    have e := parse_gap h1 h2 (by rw [List.length_take, List.length_drop]; omega)
    rw [grp_of h8 (by omega) hk (fun t a b => by
      have := zr_zero us 8 A (t - A) (by omega)
      rwa [show A + (t - A) = t by omega] at this)] at e
    exact e
set_option maxHeartbeats 12800000 in
set_option maxRecDepth 100000 in
theorem asp_key (w : World) (hi lo : Nat) (h1 : hi < 18446744073709551616) (h2 : lo < 18446744073709551616) (how from_ : Int) (m : Int) (hm : Mx m w) (hd : D4 w) (hsy : Sy w) :
    Calls Tryd.prog 9 #[.int .u64 (hi : Int), .int .u64 (lo : Int), .int .i64 how, .int .i64 from_] w fun e w' => e = .returned (.bool true) ∧ Fr N0 w w' := by
  have ka := fun (W : World) (h : Fr N0 w W) => awake3 (w := W) m (hm.fr h) (hsy.fr h) (hd.fr h)
  have kg := fun (W : World) => grps_ (w := W) hi lo ⟨h1, h2⟩
  have h8 : (gsA ⟨true, hi, lo⟩).length = 8 := gsA_len _
  have hb := gsA_lt ⟨true, hi, lo⟩
  have had := adG_gs h1 h2
  have kq := fun (T : List UInt8) (hT : (bA T).size ≤ 100) (hp : parseA (bA T) = (⟨true, hi, lo⟩, 0)) (W : World) (h : Fr N0 w W) => (by
    have := parse_any (w := W) (bA T) m (by omega) (hm.fr h) (hsy.fr h)
    rw [hp] at this
    exact this : Calls Tryd.prog 11 #[.string (bA T)] W fun e w' => e = .returned (.tuple #[adV ⟨true, hi, lo⟩, .int .i64 0]) ∧ Fr N0 W w')
  generalize gsA ⟨true, hi, lo⟩ = us at *
  have eA := fun (W : World) => eql_ad ⟨true, hi, lo⟩ ⟨true, hi, lo⟩ W
  have qA := fun X Y W => guard_ad .eql X Y ⟨true, hi, lo⟩ ⟨true, hi, lo⟩ W
  rw [decide_eq_true rfl] at eA
  unfold adV at *
  have h7 := i64_and7 from_
  obtain ⟨A, hA⟩ : ∃ A : Nat, (A : Int) = from_ % 8 := ⟨(from_ % 8).toNat, by omega⟩
  have hA8 : A < 8 := by omega
  rw [← hA] at h7
  have KA := Lib.hid ka
  have KQ := Lib.hid kq
  have H8 := Lib.hid h8
  have HB := Lib.hid hb
  have HAD := Lib.hid had
  clear ka kq h8 hb had hA hm hd hsy
  go_enter Tryd.func9, Tryd.ntmps9
  go_wp2_with fail
  refine (KA.out _ (Fr.refl _ _)).mono ?_
  rintro e w2 ⟨rfl, hf⟩
  have F2 := Lib.hid hf
  clear hf
  go_wp2_with fail
  have F3 := Lib.hid (F2.out.alloc (.cells #[.bool true, .int .u64 (hi : Int), .int .u64 (lo : Int)] 25))
  have B3 := Lib.hid (Blk.new w2 25 #[.bool true, .int .u64 (hi : Int), .int .u64 (lo : Int)])
  generalize w2.alloc _ = w3 at *
  generalize w2.heap.size = g3 at *
  obtain ⟨z0, z1, z2⟩ := B3.out.c3
  go_wp2_with fail
  refine (kg _).mono ?_
  rintro e w4 ⟨v, rfl, A', c, rfl, hO, hg, hf⟩
  rw [H8.out] at hO ⊢
  obtain ⟨gb, rfl, hcell⟩ := own_u64 hO (by omega)
  have HCL := Lib.hid hcell
  have F4 := Lib.hid (F3.out.trans hf)
  have B4 := Lib.hid (B3.out.fr hf id)
  clear hO hg hf hcell kg z0 z1 z2 F2 F3 B3
  go_wp2_with fail
  go_loopw [13, 14] (fun s i wr => ∃ (j : Nat) (T : List UInt8), j ≤ 8 ∧ i = .int .i64 (j : Int) ∧ s = .string ⟨T.toArray⟩ ∧ Hid (SpS us A j T) ∧ Hid (T.length ≤ 6 * j + 2) ∧ Fr N0 w4 wr) (fun _ i _ => 9 - (intOf i).toNat)
  case atStart => exact ⟨0, [], by omega, rfl, rfl, Lib.hid (SpS.start us A), Lib.hid (by simp), Fr.refl _ _⟩
  case round =>
    obtain ⟨j, T, hj, rfl, rfl, hR, hTl, hF⟩ := hrel
    have F := Lib.hid hF
    clear hF
    have hsz : T.length ≤ 60 := by have := hTl.out; omega
    by_cases hj8 : j < 8
    · have hjI : (j : Int) < 8 := by omega
      obtain ⟨u, hu⟩ : ∃ u, us[j]? = some u := ⟨us[j]'(by rw [H8.out]; exact hj8), List.getElem?_eq_getElem _⟩
      have HC := Lib.hid fun (k x : Nat) (h : us[k]? = some x) => (F.out.cell (p := ⟨gb, k, none⟩) (World.block_lt_of_cell? _ _ (HCL.out k x h)) id).trans (HCL.out k x h)
      by_cases hG : j = A ∧ u = 0
      · obtain ⟨rfl, rfl⟩ := hG
        have y0 := HC.out _ _ hu
        have HGP := Lib.hid (hR.out.gap hu)
        have HZL := Lib.hid (zr_le us H8.out 8 j hj)
        have HZP := Lib.hid (zr_pos hu)
        have HCAT := Lib.hid (bA_cat T [58, 58])
        clear hu hR
        go_wp2_with fail
        go_loop [14] (fun i => ∃ d : Nat, j + d ≤ 8 ∧ i = .int .i64 ((j + d : Nat) : Int) ∧ Hid (∀ t, t < d → us[j + t]? = some 0)) (fun i => 9 - (intOf i).toNat)
        case atStart => exact ⟨0, by omega, rfl, Lib.hid fun t h => by omega⟩
        case round =>
          obtain ⟨d, hd, rfl, HZ⟩ := hrel
          obtain ⟨p, hp⟩ : ∃ p, p = j + d := ⟨_, rfl⟩
          rw [← hp] at hd ⊢
          have HP := Lib.hid hp
          by_cases hp8 : p < 8
          · obtain ⟨u, hu⟩ : ∃ u, us[p]? = some u := ⟨us[p]'(by rw [H8.out]; exact hp8), List.getElem?_eq_getElem _⟩
            have yp := HC.out _ _ hu
            have HU := Lib.hid hu
            have hpI : (p : Int) < 8 := by omega
            by_cases hu0 : u = 0
            · subst hu0
              clear hu hp
              go_wp2_with fail
              go_round
              case rel => exact ⟨d + 1, by have := HP.out; omega, by have := HP.out; rw [this]; go_num, Lib.hid fun t h => by
                by_cases e : t = d
                · rw [e, ← HP.out]; exact HU.out
                · exact HZ.out t (by omega)⟩
              case measure => simp [intOf]; omega
            · have hne : ((u : Int) == 0) = false := by simp; omega
              have HE := Lib.hid (zr_is us d j 8 (by omega) HZ.out (by rw [← hp, hu]; simpa using hu0))
              clear hu hp hu0
              go_wp2_with fail
              go_roundw
              case rel => exact ⟨p, T ++ [58, 58], hd, by go_num, congrArg Value.string HCAT.out, Lib.hid (by have := HGP.out; rw [HE.out, ← HP.out] at this; exact this), Lib.hid (by have := hTl.out; have := HE.out; have := HZP.out; have := HP.out; rw [List.length_append]; simp; omega), F.out⟩
              case measure => simp [intOf]; have := HE.out; have := HZP.out; have := HP.out; omega
          · have hpI : ¬ ((p : Int) < 8) := by omega
            have HE := Lib.hid (zr_is us d j 8 (by omega) HZ.out (by rw [← hp, List.getElem?_eq_none (by rw [H8.out]; omega)]; simp))
            clear hp
            go_wp2_with fail
            go_roundw
            case rel => exact ⟨p, T ++ [58, 58], hd, by go_num, congrArg Value.string HCAT.out, Lib.hid (by have := HGP.out; rw [HE.out, ← HP.out] at this; exact this), Lib.hid (by have := hTl.out; have := HE.out; have := HZP.out; have := HP.out; rw [List.length_append]; simp; omega), F.out⟩
            case measure => simp [intOf]; have := HE.out; have := HZP.out; have := HP.out; omega
      · have hor : ((j : Int) == (A : Int)) = false ∨ (j = A ∧ ((u : Int) == 0) = false) := by
          by_cases e : j = A
          · right
            refine ⟨e, ?_⟩
            have : u ≠ 0 := fun q => hG ⟨e, q⟩
            simp; omega
          · left; simp; omega
        have hn := hR.out.next (fun h => hG ⟨h.1, by have := h.2; rw [← h.1, hu] at this; exact Option.some.inj this⟩) hu
        have y0 := HC.out _ _ hu
        have hu16 := HB.out u (List.mem_of_getElem? hu)
        obtain ⟨q, hq⟩ : ∃ q : Int, q = (how / 2 ^ ((j : Int) % 4).toNat) % 8 := ⟨_, rfl⟩
        have ks := Lib.hid fun (W : World) => spel_ (w := W) u hu16 q (by rw [hq]; exact Int.emod_nonneg _ (by omega)) (by have := Int.emod_lt_of_pos (how / 2 ^ ((j : Int) % 4).toNat) (show (0 : Int) < 8 by omega); omega)
        have h3 := i64_and3 (j : Int)
        have hq7 : bits .and .i64 (how / 2 ^ ((j : Int) % 4).toNat) 7 = q := by rw [i64_and7, hq]
        have h34 : 0 ≤ (j : Int) % 4 := by omega
        clear hu hG hR hq
        rcases hor with hor | ⟨rfl, hor2⟩
        all_goals
          rcases hn with ⟨h0, hn⟩ | ⟨h0, ⟨ch, hch, hne58⟩, hn⟩ | ⟨h0, hch, hn⟩
          · have hjz : ¬ (0 < (j : Int)) := by omega
            have HN := Lib.hid hn
            clear hn h0
            go_wp2_with fail
            go_region_with (go_at_call 29; refine (ks.out _).mono ?_; rintro e w5 ⟨t, rfl, ht, hf⟩; have HT := Lib.hid ht; have hts := size4 ht; have htl := ht.le; have FW := Lib.hid (F.out.trans ((Fr.refl N0 wr).drew.trans hf)))
            clear hq7
            go_wp2_with fail
            go_roundw
            case rel => exact ⟨j + 1, T ++ t, by omega, by go_num, congrArg Value.string (bA_cat T t), Lib.hid (HN.out t HT.out), Lib.hid (by rw [List.length_append]; have := hTl.out; omega), FW.out⟩
            case measure => first | (simp [intOf]; done) | (simp [intOf]; omega)
          · have hjp : 0 < (j : Int) := by omega
            have HN := Lib.hid hn
            have hT1 := last_len hch
            have hqc : ((((⟨T.toArray⟩ : ByteArray)[T.length - 1]'(by show T.length - 1 < T.toArray.size; simp; omega)).toNat : Int) != 58) = true := by
              rw [last_byte hch]
              have : ch.toNat ≠ 58 := fun e => hne58 (UInt8.toNat_inj.1 e)
              rw [bne_iff_ne]; omega
            clear hn h0 hch
            go_wp2_with fail
            go_region_with (go_at_call 29; refine (ks.out _).mono ?_; rintro e w5 ⟨t, rfl, ht, hf⟩; have HT := Lib.hid ht; have hts := size4 ht; have htl := ht.le; have FW := Lib.hid (F.out.trans ((Fr.refl N0 wr).drew.trans hf)))
            clear hq7
            go_wp2_with fail
            go_roundw
            case rel => exact ⟨j + 1, T ++ 58 :: t, by omega, by go_num, congrArg Value.string (by rw [show T ++ 58 :: t = (T ++ [58]) ++ t by simp, ← bA_cat, ← bA_cat]; rfl), Lib.hid (HN.out t HT.out), Lib.hid (by rw [List.length_append]; simp only [List.length_cons]; have := hTl.out; omega), FW.out⟩
            case measure => first | (simp [intOf]; done) | (simp [intOf]; omega)
          · have hjp : 0 < (j : Int) := by omega
            have HN := Lib.hid hn
            have hT1 := last_len hch
            have hqc : ((((⟨T.toArray⟩ : ByteArray)[T.length - 1]'(by show T.length - 1 < T.toArray.size; simp; omega)).toNat : Int) != 58) = false := by
              rw [last_byte hch]
              rfl
            clear hn h0 hch
            go_wp2_with fail
            go_region_with (go_at_call 29; refine (ks.out _).mono ?_; rintro e w5 ⟨t, rfl, ht, hf⟩; have HT := Lib.hid ht; have hts := size4 ht; have htl := ht.le; have FW := Lib.hid (F.out.trans ((Fr.refl N0 wr).drew.trans hf)))
            clear hq7
            go_wp2_with fail
            go_roundw
            case rel => exact ⟨j + 1, T ++ t, by omega, by go_num, congrArg Value.string (bA_cat T t), Lib.hid (HN.out t HT.out), Lib.hid (by rw [List.length_append]; have := hTl.out; omega), FW.out⟩
            case measure => first | (simp [intOf]; done) | (simp [intOf]; omega)
    · obtain rfl : j = 8 := by omega
      have hp := hR.out.done H8.out hA8
      rw [HAD.out] at hp
      have kq := KQ.out T (by rw [bA_size]; omega) hp
      have KQ2 := Lib.hid kq
      have F5 := Lib.hid (F4.out.trans F.out)
      have B5 := Lib.hid (B4.out.fr F.out id)
      clear hp kq KQ hR hTl
      go_wp2_with fail
      refine (KQ2.out _ F5.out).mono ?_
      rintro e w6 ⟨rfl, hf⟩
      have F6 := Lib.hid ((F5.out.trans hf).alloc (.cells #[.bool true, .int .u64 (hi : Int), .int .u64 (lo : Int)] 25))
      obtain ⟨a0, a1, a2⟩ := ((B5.out.fr hf id).alloc (.cells #[.bool true, .int .u64 (hi : Int), .int .u64 (lo : Int)] 25)).c3
      obtain ⟨b0, b1, b2⟩ := (Blk.new w6 25 #[.bool true, .int .u64 (hi : Int), .int .u64 (lo : Int)]).c3
      clear hf
      go_wp2_with fail
      go_ret
      exact ⟨rfl, F6.out⟩
theorem asp_walk (W : World) (hS : W.ShapedOpen Tryd.prog) (ht : T10 W ∧ D4 W ∧ Sy W) (hi : Int) (h1 : 0 ≤ hi) (h2 : hi ≤ 18446744073709551615) (lo : Int) (l1 : 0 ≤ lo) (l2 : lo ≤ 18446744073709551615) (how : Int) (_q1 : -9223372036854775808 ≤ how) (_q2 : how ≤ 9223372036854775807) (from_ : Int) (_r1 : -9223372036854775808 ≤ from_) (_r2 : from_ ≤ 9223372036854775807) :
    Calls Tryd.prog 9 #[.int .u64 hi, .int .u64 lo, .int .i64 how, .int .i64 from_] W fun e w' => e = .returned (.bool true) ∧ Below W.heap.size W w' := by
  obtain ⟨m, hm⟩ := mx_of hS
  obtain ⟨a, rfl⟩ := Int.eq_ofNat_of_zero_le h1
  obtain ⟨b, rfl⟩ := Int.eq_ofNat_of_zero_le l1
  exact (asp_key W a b (by omega) (by omega) how from_ m hm ht.2.1 ht.2.2).mono fun e w' ⟨he, hf⟩ => ⟨he, hf.below (Nat.le_refl _) fun _ _ h => h.elim⟩
end Go.Proofs.YtejddfgmfdpnfaaDoor
