/- append of many, of none. The document's Put of a number's bytes. The document's Valid of addresses, Width. The document's bytes of an address, and its bits. -/
import Derived.Test.YtejddfgmfdpnfaaDoorKa
import Derived.Deep.AppendSrc
import Derived.Deep.RegionHeld3
namespace Go.Proofs.YtejddfgmfdpnfaaDoor
open Go.RowKit

/-- 'append(s, x...)' onto a slice of the call's own. -/
theorem wpList_appendM {P : Program} (w : World) {ops : Array Oper} {rest : List Oper} {o : Oper} {a : Act} {Q : Exit → Act → World → Prop} (hgd : o.guard = none) (s x : Operand) (t : TypeId)
    (ho : o.op = .call { callee := .builtin .append, args := #[s, x], argTypes := #[t, t] })
    (e : TypeId) (i : TypeInfo) (z : Value) (size bytes : Nat) (ht : P.underlying t = some (.slice e)) (hi : P.info? e = some i) (hz : i.zero = some z)
    (hsize : i.size = size) (hby : i.bytes = bytes) (hzs : z.cells.size = size) (hsz : 0 < size)
    (A : Option Addr) (n c : Nat) (xs : List Value) (hs : a.eval s = .slice A n c) (hown : Own w e size A n c xs)
    (ad : Addr) (m cm : Nat) (us : List Value) (hx : a.eval x = .slice (some ad) m cm) (hl : us.length = m * size) (hus : ∀ j u, us[j]? = some u → w.cell? (ad.add j) = some u) (h1 : ∀ u ∈ us, u.oneCell' = true)
    (hbytes : (n + m) * bytes ≤ 140737488355328) (h63 : n + m ≤ 9223372036854775807)
    (h : ∀ A' c' w', Own w' e size A' (n + m) c' (xs ++ us) → Fr (fun i => A = some ⟨i, 0, none⟩) w w' → (A' = A ∨ ∃ g', A' = some ⟨g', 0, none⟩ ∧ w.heap.size ≤ g') → wpList P ops Q rest (a.put o.dst (.slice A' (n + m) c')) w') :
    wpList P ops Q (o :: rest) a w := by
  refine wpList_append_own_at _ hgd s x t ho 0 e i z size bytes ht hi hz hsize hby hzs hsz _ n xs hs hown.row ad m cm us hx hl hus h1 h63 hbytes (Nat.zero_le _) ?_
  intro v' w1 hown' hgrow hnil hat
  have hfr : Fr (fun i => A = some ⟨i, 0, none⟩) w w1 := by
    refine Fr.grown (Fr.refl _ w) hgrow fun i hi => ?_
    cases A with
    | none => simp [Value.ownBlock] at hi
    | some ad =>
      left
      simp [Value.ownBlock] at hi
      rcases hown.2 with ⟨h, _⟩ | ⟨g, _, hg, _⟩
      · cases h
      · injection hg with hg
        subst hg
        simp at hi
        rw [hi]
  rcases hown'.2 with ⟨hv, h0⟩ | ⟨g', c', cur, hv, _⟩
  · have hA := (hnil.1 hv).1
    injection hA with hA1 _ _
    have hn0 : n + m = 0 := h0
    have hxs : xs ++ us = [] := List.length_eq_zero_iff.1 (by rw [hown'.1, hn0, Nat.zero_mul])
    have := h none 0 w1 (by rw [hn0, hxs]; exact Own.nil_ _ _ _) hfr (.inl hA1.symm)
    rw [hv]
    rw [hn0] at this
    exact this
  · subst hv
    refine h _ c' w1 (Own.of_row hown') hfr ?_
    rcases hat with hat | hat
    · left
      cases A with
      | none => simp [Value.ownBlock] at hat
      | some ad =>
        rcases hown.2 with ⟨h, _⟩ | ⟨g, _, hg, _⟩
        · cases h
        · injection hg with hg
          subst hg
          simp [Value.ownBlock] at hat
          rw [hat]
    · right
      simp [Value.ownBlock] at hat
      exact ⟨g', rfl, by omega⟩
/-- 'append(s, nil...)'. -/
theorem wpList_append0 {P : Program} (w : World) {ops : Array Oper} {rest : List Oper} {o : Oper} {a : Act} {Q : Exit → Act → World → Prop} (hgd : o.guard = none) (s x : Operand) (t : TypeId)
    (ho : o.op = .call { callee := .builtin .append, args := #[s, x], argTypes := #[t, t] })
    (e : TypeId) (i : TypeInfo) (ht : P.underlying t = some (.slice e)) (hi : P.info? e = some i)
    {size : Nat} (A : Option Addr) (n c : Nat) (xs : List Value) (hs : a.eval s = .slice A n c) (hown : Own w e size A n c xs)
    (hx : a.eval x = .slice none 0 0) (h : wpList P ops Q rest (a.put o.dst (.slice A n c)) w) :
    wpList P ops Q (o :: rest) a w := by
  have hr : (Builtin.append_ #[t, t] o.type #[.slice A n c, .slice none 0 0]).run P w = .ok (.slice A n c) w := by
    rcases hown.2 with ⟨rfl, rfl, rfl⟩ | ⟨g, cur, rfl, hg, hnc, _⟩
    · simp [Builtin.append_, run_underlying ht, sizeOf, typeInfo, hi, Builtin.lenOf, Builtin.firstCells]
    · exact run_append_room_src (P := P) w t t o.type e i ht hi g 0 n c _ 0 [] (Src.ofNil w ht 0) (by omega) (fun j h => by simp at h) (fun j h => by simp at h)
  refine wpList_plain hgd fun K hK => ?_
  unfold Oper.wp execOp
  simp only [ho, resolve, invoke, builtin, Sem.run_bind, Sem.run_pure, Result.andThen_ok, List.map_toArray, List.map_cons, List.map_nil, hs, hx, hr]
  exact hK _ _ h
end Go.Proofs.YtejddfgmfdpnfaaDoor
namespace Go.Proofs.YtejddfgmfdpnfaaDoor
open Go.RowKit
/-- The bytes of a number, so many, the greatest ahead. -/
def byN (k n : Nat) : List Nat := (List.range k).map fun i => n / 256 ^ (k - 1 - i) % 256
theorem byN_len (k n : Nat) : (byN k n).length = k := by simp [byN]
theorem byN_take {k n j : Nat} (h : j < k) : (byN k n).take (j + 1) = (byN k n).take j ++ [n / 256 ^ (k - 1 - j) % 256] := by
  rw [List.take_add_one]
  congr 1
  unfold byN
  rw [List.getElem?_map, List.getElem?_range h]
  rfl
/-- A slice that reads as these bytes. -/
def Sr (w : World) (v : Value) (L : List Nat) : Prop :=
  ∃ A c, v = .slice A L.length c ∧ ((A = none ∧ L = [] ∧ c = 0) ∨ ∃ b off, A = some ⟨b, off, none⟩ ∧ ∀ j x, L[j]? = some x → w.cell? ⟨b, off + j, none⟩ = some (u8v x))
theorem Sr.nil_ (w : World) : Sr w (.slice none 0 0) [] := ⟨none, 0, rfl, .inl ⟨rfl, rfl, rfl⟩⟩
theorem Bx.sr {w wr : World} {v : Value} {L : List Nat} (h : Bx w wr v L) : Sr wr v L := by
  obtain ⟨A, c, rfl, hO, hg, hF⟩ := h
  rcases hO.2 with ⟨rfl, h0, rfl⟩ | ⟨g, cur, rfl, hg', hnc, hcm, hcs, ht⟩
  · exact ⟨none, 0, rfl, .inl ⟨rfl, List.length_eq_zero_iff.1 h0, rfl⟩⟩
  · refine ⟨_, c, rfl, .inr ⟨g, 0, rfl, fun j x hj => ?_⟩⟩
    have hl : j < L.length := (List.getElem?_eq_some_iff.1 hj).1
    have := hO.cell j (by omega)
    rw [List.getElem?_map, hj] at this
    rw [Nat.zero_add]
    exact this
theorem addr_add (b o j : Nat) : (⟨b, o, none⟩ : Addr).add j = ⟨b, o + j, none⟩ := by
  unfold Addr.add
  by_cases h0 : j = 0
  · subst h0; simp
  · rw [if_neg h0]
theorem div_step (n c : Nat) : n / 256 ^ c / 256 = n / 256 ^ (c + 1) := by rw [Nat.pow_succ, ← Nat.div_div_eq_div_mul]
section
variable {w : World}
set_option maxHeartbeats 3200000 in
set_option maxRecDepth 100000 in
theorem rput (v : Value) (L : List Nat) (hv : Sr w v L) (hL : L.length ≤ 1000000) (k n : Nat) (hk1 : 1 ≤ k) (hk : k ≤ 8) (hn : n < 18446744073709551616) :
    Calls Tryd.prog 35 #[v, .int .i64 (k : Int), .int .u64 (n : Int)] w fun e w' => ∃ v', e = .returned v' ∧ Bx w w' v' (L ++ byN k n) := by
  obtain ⟨i0, hi, hz0, hz1, hz2⟩ := info_parts info5
  obtain ⟨A0, c0, rfl, hA⟩ := hv
  have h0 : (0 : Int) ≤ (k : Int) := by omega
  rcases hA with ⟨rfl, hL0, rfl⟩ | ⟨b, off, rfl, hc⟩
  · have hB : Bx w w (.slice none 0 0) L := by rw [hL0]; exact Bx.nil_ w
    have e0 : L.length = 0 := by rw [hL0]; rfl
    rw [e0]
    clear hL0 e0
    go_enter Tryd.func35, Tryd.ntmps35
    go_wp2_with (at_builtin; refine wpList_append0 w rfl (.tmp 11) (.tmp 12) 30 rfl 5 i0 Tryd.underlying30 hi none 0 0 [] rfl (Own.nil_ _ _ 1) rfl ?_)
    have HB := Lib.hid hB
    clear hB
    go_loopw [7, 8] (fun v i wr => ∃ q : Nat, q ≤ k ∧ i = .int .i64 ((q : Int) - 1) ∧ Bx w wr v (L ++ (byN k n).take (k - q))) (fun _ i _ => (RowKit.intOf i + 1).toNat)
    case atStart => exact ⟨k, Nat.le_refl _, rfl, by rw [Nat.sub_self, List.take_zero, List.append_nil]; exact HB.out⟩
    case round =>
      obtain ⟨q, hq, rfl, A, c, rfl, hO, hg, hF⟩ := hrel
      obtain ⟨M, hM⟩ : ∃ M, M = L ++ (byN k n).take (k - q) := ⟨_, rfl⟩
      rw [← hM] at hO ⊢
      have hlen : M.length = L.length + (k - q) := by rw [hM, List.length_append, List.length_take, byN_len]; omega
      obtain ⟨N, hN⟩ : ∃ N, N = M.length := ⟨_, rfl⟩
      rw [← hN] at hO ⊢
      have hN2 : N ≤ 1000008 := by omega
      have HN := Lib.hid hN
      have HM := Lib.hid hM
      have O1 := Lib.hid hO
      have G1 := Lib.hid hg
      have F1 := Lib.hid hF
      clear hO hg hF hM hlen hN
      rcases Nat.eq_zero_or_pos q with rfl | hq0
      · go_wp2_with fail
        go_ret
        refine ⟨_, rfl, ?_⟩
        have e : M = L ++ byN k n := by rw [HM.out, Nat.sub_zero, List.take_of_length_le (by rw [byN_len]; omega)]
        exact Bx.mk' HN.out.symm e O1.out G1.out F1.out
      · obtain ⟨r, rfl⟩ : ∃ r, q = r + 1 := ⟨q - 1, by omega⟩
        have er : (((r + 1 : Nat) : Int) - 1) = (r : Int) := by omega
        rw [er]
        clear er
        go_wp2_with fail
        go_loop [9, 10] (fun x i => ∃ j : Nat, j ≤ r ∧ i = .int .i64 (j : Int) ∧ x = .int .u64 ((n / 256 ^ j : Nat) : Int)) (fun _ i => r - (RowKit.intOf i).toNat)
        case atStart => exact ⟨0, Nat.zero_le _, rfl, by rw [Nat.pow_zero, Nat.div_one]⟩
        case round =>
          obtain ⟨j, hj, rfl, rfl⟩ := hrel
          have hle : n / 256 ^ j ≤ n := Nat.div_le_self _ _
          have HD := Lib.hid (div_step n j)
          obtain ⟨x, hx⟩ : ∃ x, x = n / 256 ^ j := ⟨_, rfl⟩
          rw [← hx] at hle HD ⊢
          have HX := Lib.hid hx
          clear hx
          by_cases hjr : j < r
          · have hjI : (j : Int) < (r : Int) := by omega
            go_wp2_with fail
            go_round
            case rel => exact ⟨j + 1, by omega, by go_num, by rw [← HD.out]; go_num⟩
            case measure => simp [RowKit.intOf]; omega
          · obtain rfl : j = r := by omega
            go_wp2_with (at_builtin; refine wpList_append1 wr rfl (.tmp 30) (.tmp 34) 30 rfl 5 i0 (.int .u8 0) 1 1 Tryd.underlying30 hi hz0 hz1 hz2 rfl (by omega) A N c _ rfl O1.out [.int .u8 ((x : Int) % 256)] rfl rfl ?_ ?_ ?_ ?_)
            · simp [Value.oneCell']
            · omega
            · omega
            · intro g' c' w' hO' hF' hA'
              have HB := Lib.hid (Bx.step G1.out F1.out HN.out.symm hO' hF' hA' (show _ = ((x % 256 : Nat) : Int) by omega))
              clear hO' hF' hA'
              go_wp2_with fail
              go_roundw
              case rel =>
                have e : M ++ [x % 256] = L ++ (byN k n).take (k - j) := by
                  rw [HM.out, HX.out, show k - j = (k - (j + 1)) + 1 by omega, byN_take (by omega), List.append_assoc, show k - 1 - (k - (j + 1)) = j by omega]
                exact ⟨j, by omega, by go_num, by rw [← e]; exact HB.out⟩
              case measure => simp [RowKit.intOf]
  · have HC := Lib.hid hc
    clear hc
    go_enter Tryd.func35, Tryd.ntmps35
    go_wp2_with (at_builtin; refine wpList_appendM w rfl (.tmp 11) (.tmp 12) 30 rfl 5 i0 _ 1 1 Tryd.underlying30 hi hz0 hz1 hz2 rfl (by omega) none 0 0 [] rfl (Own.nil_ _ _ _) ⟨b, off, none⟩ L.length c0 (L.map u8v) rfl (by simp) ?_ ?_ ?_ ?_ ?_)
    · intro j u hj
      rw [addr_add]
      rw [List.getElem?_map] at hj
      cases hx : L[j]? with
      | none => rw [hx] at hj; cases hj
      | some x => rw [hx] at hj; cases hj; exact HC.out j x hx
    · intro u hu
      obtain ⟨x, _, rfl⟩ := List.mem_map.1 hu
      rfl
    · omega
    · omega
    intro A1 c1 w1 hO1 hF1 hA1
    have hB : Bx w w1 (.slice A1 L.length c1) L := ⟨A1, c1, rfl, hO1, fun g e => by
      rcases hA1 with h | ⟨g', h, h2⟩
      · rw [h] at e; cases e
      · rw [h] at e; cases e; exact h2, hF1.mono fun i _ h => by cases h⟩
    clear hO1 hF1 hA1
    go_wp2_with fail
    have HB := Lib.hid hB
    clear hB
    go_loopw [7, 8] (fun v i wr => ∃ q : Nat, q ≤ k ∧ i = .int .i64 ((q : Int) - 1) ∧ Bx w wr v (L ++ (byN k n).take (k - q))) (fun _ i _ => (RowKit.intOf i + 1).toNat)
    case atStart => exact ⟨k, Nat.le_refl _, rfl, by rw [Nat.sub_self, List.take_zero, List.append_nil]; exact HB.out⟩
    case round =>
      obtain ⟨q, hq, rfl, A, c, rfl, hO, hg, hF⟩ := hrel
      obtain ⟨M, hM⟩ : ∃ M, M = L ++ (byN k n).take (k - q) := ⟨_, rfl⟩
      rw [← hM] at hO ⊢
      have hlen : M.length = L.length + (k - q) := by rw [hM, List.length_append, List.length_take, byN_len]; omega
      obtain ⟨N, hN⟩ : ∃ N, N = M.length := ⟨_, rfl⟩
      rw [← hN] at hO ⊢
      have hN2 : N ≤ 1000008 := by omega
      have HN := Lib.hid hN
      have HM := Lib.hid hM
      have O1 := Lib.hid hO
      have G1 := Lib.hid hg
      have F1 := Lib.hid hF
      clear hO hg hF hM hlen hN
      rcases Nat.eq_zero_or_pos q with rfl | hq0
      · go_wp2_with fail
        go_ret
        refine ⟨_, rfl, ?_⟩
        have e : M = L ++ byN k n := by rw [HM.out, Nat.sub_zero, List.take_of_length_le (by rw [byN_len]; omega)]
        exact Bx.mk' HN.out.symm e O1.out G1.out F1.out
      · obtain ⟨r, rfl⟩ : ∃ r, q = r + 1 := ⟨q - 1, by omega⟩
        have er : (((r + 1 : Nat) : Int) - 1) = (r : Int) := by omega
        rw [er]
        clear er
        go_wp2_with fail
        go_loop [9, 10] (fun x i => ∃ j : Nat, j ≤ r ∧ i = .int .i64 (j : Int) ∧ x = .int .u64 ((n / 256 ^ j : Nat) : Int)) (fun _ i => r - (RowKit.intOf i).toNat)
        case atStart => exact ⟨0, Nat.zero_le _, rfl, by rw [Nat.pow_zero, Nat.div_one]⟩
        case round =>
          obtain ⟨j, hj, rfl, rfl⟩ := hrel
          have hle : n / 256 ^ j ≤ n := Nat.div_le_self _ _
          have HD := Lib.hid (div_step n j)
          obtain ⟨x, hx⟩ : ∃ x, x = n / 256 ^ j := ⟨_, rfl⟩
          rw [← hx] at hle HD ⊢
          have HX := Lib.hid hx
          clear hx
          by_cases hjr : j < r
          · have hjI : (j : Int) < (r : Int) := by omega
            go_wp2_with fail
            go_round
            case rel => exact ⟨j + 1, by omega, by go_num, by rw [← HD.out]; go_num⟩
            case measure => simp [RowKit.intOf]; omega
          · obtain rfl : j = r := by omega
            go_wp2_with (at_builtin; refine wpList_append1 wr rfl (.tmp 30) (.tmp 34) 30 rfl 5 i0 (.int .u8 0) 1 1 Tryd.underlying30 hi hz0 hz1 hz2 rfl (by omega) A N c _ rfl O1.out [.int .u8 ((x : Int) % 256)] rfl rfl ?_ ?_ ?_ ?_)
            · simp [Value.oneCell']
            · omega
            · omega
            · intro g' c' w' hO' hF' hA'
              have HB := Lib.hid (Bx.step G1.out F1.out HN.out.symm hO' hF' hA' (show _ = ((x % 256 : Nat) : Int) by omega))
              clear hO' hF' hA'
              go_wp2_with fail
              go_roundw
              case rel =>
                have e : M ++ [x % 256] = L ++ (byN k n).take (k - j) := by
                  rw [HM.out, HX.out, show k - j = (k - (j + 1)) + 1 by omega, byN_take (by omega), List.append_assoc, show k - 1 - (k - (j + 1)) = j by omega]
                exact ⟨j, by omega, by go_num, by rw [← e]; exact HB.out⟩
              case measure => simp [RowKit.intOf]
end
end Go.Proofs.YtejddfgmfdpnfaaDoor
namespace Go.Proofs.YtejddfgmfdpnfaaDoor
open Go.RowKit
section
variable {w : World}
set_option maxHeartbeats 1600000 in
theorem rval (a : Ad) : Calls Tryd.prog 19 #[adV a] w fun e w' => e = .returned (.bool (validA a)) ∧ Fr N0 w w' := by
  obtain ⟨s, h, l⟩ := a
  cases s with
  | true =>
    go_enter Tryd.func19, Tryd.ntmps19
    unfold adV
    go_wp2_with fail
    go_ret
    exact ⟨retb (by simp [validA]), (Fr.refl _ _).alloc _⟩
  | false =>
    by_cases e : h = 0
    · subst e
      go_enter Tryd.func19, Tryd.ntmps19
      unfold adV
      go_wp2_with fail
      go_ret
      exact ⟨retb (by simp [validA]; omega), (Fr.refl _ _).alloc _⟩
    · have e1 : decide ((h : Int) = 0) = false := by simp; omega
      go_enter Tryd.func19, Tryd.ntmps19
      unfold adV
      go_wp2_with fail
      go_ret
      exact ⟨retb (by simp [validA, e]), (Fr.refl _ _).alloc _⟩
end
end Go.Proofs.YtejddfgmfdpnfaaDoor
namespace Go.Proofs.YtejddfgmfdpnfaaDoor
open Go.RowKit
theorem byN_hi (h l : Nat) : byN 8 h ++ byN 8 l = bytesA ⟨true, h, l⟩ := by
  rw [bytes_hi]
  simp [byN, byteA, List.range_succ]
theorem byN_lo (l : Nat) : byN 4 l = bytesA ⟨false, 0, l⟩ := by
  rw [bytes_lo]
  simp [byN, byteA, List.range_succ]
section
variable {w : World}
set_option maxHeartbeats 3200000 in
set_option maxRecDepth 100000 in
theorem rbyt (a : Ad) (ho : a.ok) : Calls Tryd.prog 15 #[adV a] w fun e w' => ∃ v, e = .returned v ∧ Bx w w' v (if validA a = true then bytesA a else []) := by
  obtain ⟨s, h, l⟩ := a
  obtain ⟨ho1, ho2⟩ := ho
  simp only at ho1 ho2
  have c32 : ∀ (w : World) {b : Bool}, validA ⟨s, h, l⟩ = b → Calls Tryd.prog 19 #[.agg #[.bool s, .int .u64 (h : Int), .int .u64 (l : Int)]] w fun e w' => e = .returned (.bool b) ∧ Fr N0 w w' := fun w b hb => hb ▸ rval (w := w) ⟨s, h, l⟩
  by_cases hv : validA ⟨s, h, l⟩ = true
  · rw [if_pos hv]
    have k32 := fun w => c32 w hv
    have HV := Lib.hid hv
    clear c32 hv
    cases s with
    | false =>
      have hh : h = 0 := by
        have := HV.out
        unfold validA at this
        simp at this
        exact this.1
      have kp := fun (W : World) => rput (w := W) (.slice none 0 0) [] (Sr.nil_ W) (by decide) 4 l (by omega) (by omega) ho2
      rw [List.nil_append, byN_lo l] at kp
      subst hh
      go_enter Tryd.func15, Tryd.ntmps15
      unfold adV
      go_wp2_with fail
      have HA1 := Lib.hid (Blk.new w 25 #[Value.bool false, Value.int .u64 0, Value.int .u64 (l : Int)])
      have HF1 := Lib.hid (Fr.alloc (Fr.refl N0 w) (.cells #[Value.bool false, Value.int .u64 0, Value.int .u64 (l : Int)] 25))
      generalize w.alloc _ = w1 at *
      obtain ⟨g1, hg1⟩ : ∃ g1, g1 = w.heap.size := ⟨_, rfl⟩
      rw [← hg1] at HA1 ⊢
      have HG1 : Hid (w.heap.size ≤ g1) := Lib.hid (by omega)
      clear hg1
      have HZ1 : Hid (∀ W, Fr N0 w1 W → Blk W g1 25 #[Value.bool false, Value.int .u64 0, Value.int .u64 (l : Int)]) := Lib.hid fun W hf => HA1.out.fr hf id
      have F := Lib.hid (Fr.refl N0 w1)
      obtain ⟨z1_0, z1_1, z1_2⟩ := (HZ1.out _ F.out).c3
      go_wp2_with (first
        | (go_at_call 19; refine (k32 _).mono ?_; rintro e w2 ⟨rfl, hf⟩; have F := Lib.hid (F.out.trans hf); obtain ⟨z1_0, z1_1, z1_2⟩ := (HZ1.out _ F.out).c3)
        | (go_at_call 35; refine (kp _).mono ?_; rintro e w3 ⟨v3, rfl, B3⟩))
      go_ret
      exact ⟨_, rfl, B3.up (HF1.out.trans F.out)⟩
    | true =>
      have kp := fun (W : World) => rput (w := W) (.slice none 0 0) [] (Sr.nil_ W) (by decide) 8 h (by omega) (by omega) ho1
      have kq := fun (W : World) (v : Value) (hs : Sr W v (byN 8 h)) => rput (w := W) v (byN 8 h) hs (by rw [byN_len]; omega) 8 l (by omega) (by omega) ho2
      rw [List.nil_append] at kp
      rw [byN_hi h l] at kq
      obtain ⟨X, hX⟩ : ∃ X, X = byN 8 h := ⟨_, rfl⟩
      rw [← hX] at kp kq
      clear hX
      go_enter Tryd.func15, Tryd.ntmps15
      unfold adV
      go_wp2_with fail
      have HA1 := Lib.hid (Blk.new w 25 #[Value.bool true, Value.int .u64 (h : Int), Value.int .u64 (l : Int)])
      have HF1 := Lib.hid (Fr.alloc (Fr.refl N0 w) (.cells #[Value.bool true, Value.int .u64 (h : Int), Value.int .u64 (l : Int)] 25))
      generalize w.alloc _ = w1 at *
      obtain ⟨g1, hg1⟩ : ∃ g1, g1 = w.heap.size := ⟨_, rfl⟩
      rw [← hg1] at HA1 ⊢
      have HG1 : Hid (w.heap.size ≤ g1) := Lib.hid (by omega)
      clear hg1
      have HZ1 : Hid (∀ W, Fr N0 w1 W → Blk W g1 25 #[Value.bool true, Value.int .u64 (h : Int), Value.int .u64 (l : Int)]) := Lib.hid fun W hf => HA1.out.fr hf id
      have F := Lib.hid (Fr.refl N0 w1)
      obtain ⟨z1_0, z1_1, z1_2⟩ := (HZ1.out _ F.out).c3
      go_wp2_with (go_at_call 19; refine (k32 _).mono ?_; rintro e w2 ⟨rfl, hf⟩; have F := Lib.hid (F.out.trans hf); obtain ⟨z1_0, z1_1, z1_2⟩ := (HZ1.out _ F.out).c3)
      have HZA := Lib.hid fun (W : World) (hf : Fr N0 w2 W) => (HZ1.out W (F.out.trans hf)).c3
      have HF2 := Lib.hid (HF1.out.trans F.out)
      go_region_held3 (fun w' => w'.cell? ⟨g1, 0, none⟩ = some (.bool true) ∧ w'.cell? ⟨g1, 1, none⟩ = some (.int .u64 (h : Int)) ∧ w'.cell? ⟨g1, 2, none⟩ = some (.int .u64 (l : Int))) (first | go_keep | exact HZA.out _ F5.out | exact HZA.out _ F4.out) ((first
        | (go_at_call_of 35 h; refine (kp _).mono ?_; rintro e w4 ⟨v4, rfl, B4⟩; have F4 := Lib.hid (Fr.trans (by repeat first | exact Fr.refl _ _ | refine Fr.drew ?_ | refine Fr.drewN ?_ _) (show Fr N0 _ w4 from B4.choose_spec.choose_spec.2.2.2) : Fr N0 w2 w4))
        | (go_at_call_of 35 l; refine (kq _ v4 (show Sr _ v4 X from B4.sr)).mono ?_; rintro e w5 ⟨v5, rfl, B5⟩; have F5 := Lib.hid (F4.out.trans (show Fr N0 w4 w5 from B5.choose_spec.choose_spec.2.2.2)))))
      go_wp2_with fail
      go_ret
      exact ⟨_, rfl, (show Bx w4 w5 v5 _ from B5).up (HF2.out.trans F4.out)⟩
  · rw [if_neg hv]
    rw [Bool.not_eq_true] at hv
    have k32 := fun w => c32 w hv
    clear c32 hv
    go_enter Tryd.func15, Tryd.ntmps15
    unfold adV
    go_wp2_with fail
    have HA1 := Lib.hid (Blk.new w 25 #[Value.bool s, Value.int .u64 (h : Int), Value.int .u64 (l : Int)])
    have HF1 := Lib.hid (Fr.alloc (Fr.refl N0 w) (.cells #[Value.bool s, Value.int .u64 (h : Int), Value.int .u64 (l : Int)] 25))
    generalize w.alloc _ = w1 at *
    obtain ⟨g1, hg1⟩ : ∃ g1, g1 = w.heap.size := ⟨_, rfl⟩
    rw [← hg1] at HA1 ⊢
    have HG1 : Hid (w.heap.size ≤ g1) := Lib.hid (by omega)
    clear hg1
    have HZ1 : Hid (∀ W, Fr N0 w1 W → Blk W g1 25 #[Value.bool s, Value.int .u64 (h : Int), Value.int .u64 (l : Int)]) := Lib.hid fun W hf => HA1.out.fr hf id
    have F := Lib.hid (Fr.refl N0 w1)
    obtain ⟨z1_0, z1_1, z1_2⟩ := (HZ1.out _ F.out).c3
    go_wp2_with (first
      | (go_at_call 19; refine (k32 _).mono ?_; rintro e w2 ⟨rfl, hf⟩; have F := Lib.hid (F.out.trans hf); obtain ⟨z1_0, z1_1, z1_2⟩ := (HZ1.out _ F.out).c3))
    go_ret
    exact ⟨_, rfl, (Bx.nil_ _).up (HF1.out.trans F.out)⟩
end
end Go.Proofs.YtejddfgmfdpnfaaDoor
