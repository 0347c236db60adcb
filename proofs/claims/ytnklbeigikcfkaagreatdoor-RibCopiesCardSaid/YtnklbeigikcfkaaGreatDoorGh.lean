/- The document's Valid of addresses, Width. prefix.Halves. addr.Bytes. prefix.Bit. The document's Put of a number's bytes. The document's bytes of an address, and its bits. The document's bits of an address. The document's address out of its bits. The document's Cut. -/
import Derived.Test.YtnklbeigikcfkaaGreatDoorQr
import Derived.Test.YtnklbeigikcfkaaGreatDoorLe
import Derived.Laws.Bits64b
import Derived.Test.YtnklbeigikcfkaaGreatDoorOwn
import Derived.Deep.DeepCutAuto
import Derived.Deep.CutBlock
import Derived.OwnWalk
import Derived.Test.YtnklbeigikcfkaaGreatDoorOf
import Derived.Test.YtnklbeigikcfkaaGreatDoorPr
import Derived.WalkSmall
import Derived.Test.YtnklbeigikcfkaaGreatDoorApm
import Derived.Deep.RegionHeld3
import Derived.Test.YtnklbeigikcfkaaGreatDoorPc
import Derived.Laws.OwnMore
namespace Go.Proofs.YtnklbeigikcfkaaGreatDoor
open Go.RowKit
section
variable {w : World}
set_option maxHeartbeats 1600000 in
theorem rval (a : Ad) : Calls Tryz.prog 88 #[adV a] w fun e w' => e = .returned (.bool (validA a)) ∧ Fr N0 w w' := by
  obtain ⟨s, h, l⟩ := a
  cases s with
  | true =>
    go_enter Tryz.func88, Tryz.ntmps88
    unfold adV
    go_wp2_with fail
    go_ret
    exact ⟨retb (by simp [validA]), (Fr.refl _ _).alloc _⟩
  | false =>
    by_cases e : h = 0
    · subst e
      go_enter Tryz.func88, Tryz.ntmps88
      unfold adV
      go_wp2_with fail
      go_ret
      exact ⟨retb (by simp [validA]; omega), (Fr.refl _ _).alloc _⟩
    · have e1 : decide ((h : Int) = 0) = false := by simp; omega
      go_enter Tryz.func88, Tryz.ntmps88
      unfold adV
      go_wp2_with fail
      go_ret
      exact ⟨retb (by simp [validA, e]), (Fr.refl _ _).alloc _⟩
theorem rwid (a : Ad) : Calls Tryz.prog 89 #[adV a] w fun e w' => e = .returned (.int .i64 (widthA a)) ∧ Fr N0 w w' := by
  obtain ⟨s, h, l⟩ := a
  cases s with
  | true =>
    go_enter Tryz.func89, Tryz.ntmps89
    unfold adV
    go_wp2_with fail
    go_ret
    exact ⟨rfl, (Fr.refl _ _).alloc _⟩
  | false =>
    go_enter Tryz.func89, Tryz.ntmps89
    unfold adV
    go_wp2_with fail
    go_ret
    exact ⟨rfl, (Fr.refl _ _).alloc _⟩
end
end Go.Proofs.YtnklbeigikcfkaaGreatDoor
namespace Go.Proofs.YtnklbeigikcfkaaGreatDoor
open Go.RowKit
def halvesP (p : Px) : Px × Px × Int := if fullP p = true then (⟨⟨false, 0, 0⟩, 0⟩, ⟨⟨false, 0, 0⟩, 0⟩, 1) else (lowP p, highP p, 0)
theorem ret_cell3 {fn : Func} {p q u : Tmp} {ty : TypeId} {tmps cs ds : Array Value} {w : World} {g g' : Nat} {fs} {R : Ending → World → Prop} (hr : fn.results = #[.cell p ty, .cell q ty, .tmp u]) (hp : tmps.getD p undef = .pointer (some ⟨g, 0, none⟩)) (hq : tmps.getD q undef = .pointer (some ⟨g', 0, none⟩))
    (hb : Blk w g ty cs) (hc : Blk w g' ty ds) (hu : Tryz.prog.underlying ty = some (.struct fs)) (hi : (Tryz.prog.info? ty).map (·.size) = some cs.size) (hi' : (Tryz.prog.info? ty).map (·.size) = some ds.size)
    (hR : R (.returned (.tuple #[.agg cs, .agg ds, tmps.getD u undef])) w) : bodyPost Tryz.prog fn R .ret ⟨tmps, []⟩ w := by
  refine bodyPost_ret_by ?_ rfl hR
  have hp' : tmps[p]?.getD undef = .pointer (some ⟨g, 0, none⟩) := by simpa using hp
  have hq' : tmps[q]?.getD undef = .pointer (some ⟨g', 0, none⟩) := by simpa using hq
  simp [results, hr, Sem.run_bind, hp', hq', asAddr, Result.andThen, run_loadVar_row w g ty ty cs (0, 0) _ hb hu rfl hi, run_loadVar_row w g' ty ty ds (0, 0) _ hc hu rfl hi']
theorem or_bit {n k : Nat} (hn : n < 18446744073709551616) (hk : k ≤ 63) (hd : 2 ^ (k + 1) ∣ n) : bits .or .u64 (n : Int) (IntKind.u64.wrap (2 ^ k)) = ((n + 2 ^ k : Nat) : Int) := by
  have h1 : 2 ^ k < 18446744073709551616 := by rw [p64]; exact Nat.pow_lt_pow_right (by omega) (by omega)
  have e : ((2 : Int) ^ k) = ((2 ^ k : Nat) : Int) := by simp
  rw [e, IntWalk.u64_in _ (by omega), bits_or_u64_nat n (2 ^ k) hn h1]
  obtain ⟨q, rfl⟩ := hd
  congr 1
  have h2 : 2 ^ k < 2 ^ (k + 1) := Nat.pow_lt_pow_right (by omega) (by omega)
  rw [Nat.two_pow_add_eq_or_of_lt h2]
theorem Blk.set4 {w : World} {g : Nat} {t : TypeId} {a b c d : Value} (k : Blk w g t #[a, b, c, d]) (a' b' c' d' : Value) : Blk ((((w.setCell ⟨g, 0, none⟩ a').setCell ⟨g, 1, none⟩ b').setCell ⟨g, 2, none⟩ c').setCell ⟨g, 3, none⟩ d') g t #[a', b', c', d'] := by
  have := (((k.set_ 0 a').set_ 1 b').set_ 2 c').set_ 3 d'
  simpa using this
theorem Blk.far4 {w : World} {g x : Nat} {t : TypeId} {cs : Array Value} (k : Blk w g t cs) (hx : g ≠ x) (a' b' c' d' : Value) : Blk ((((w.setCell ⟨x, 0, none⟩ a').setCell ⟨x, 1, none⟩ b').setCell ⟨x, 2, none⟩ c').setCell ⟨x, 3, none⟩ d') g t cs :=
  (((k.far (p := ⟨x, 0, none⟩) hx a').far (p := ⟨x, 1, none⟩) hx b').far (p := ⟨x, 2, none⟩) hx c').far (p := ⟨x, 3, none⟩) hx d'
theorem first_dvd {n k : Nat} {m : Int} {all : Nat} (h : first n m all = n) (hk : all - (min (max m 0) all).toNat = k) : 2 ^ k ∣ n := by
  unfold first at h
  rw [hk] at h
  exact ⟨_, h.symm.trans (Nat.mul_comm _ _)⟩
theorem two_new {P : Program} {C : Code} {Q : Exit → Act → World → Prop} {a : Act} {X : World} {t : TypeId} {c5 c6 : Array Value}
    (h : ∀ w5, Fr N0 X w5 → Blk w5 X.heap.size t c5 → Blk w5 (X.heap.size + 1) t c6 → C.wp P Q a w5) : C.wp P Q a ((X.alloc (.cells c5 t)).alloc (.cells c6 t)).drew :=
  h _ (by repeat first | exact Fr.refl _ _ | refine Fr.drew ?_ | refine Fr.alloc ?_ _) (((Blk.new X t c5).alloc _).drew) ((Blk.alloc2 X _ t c6).drew)
section
variable {w : World}
end
end Go.Proofs.YtnklbeigikcfkaaGreatDoor
namespace Go.Proofs.YtnklbeigikcfkaaGreatDoor
open Go.RowKit
def u8v (x : Nat) : Value := .int .u8 (x : Int)
/-- A slice of bytes of the call's own, made since w. -/
def Bx (w wr : World) (v : Value) (l : List Nat) : Prop :=
  ∃ A c, v = .slice A l.length c ∧ Own wr 5 1 A l.length c (l.map u8v) ∧ (∀ g, A = some ⟨g, 0, none⟩ → w.heap.size ≤ g) ∧ Fr N0 w wr
theorem Bx.nil_ (w : World) : Bx w w (.slice none 0 0) [] := ⟨none, 0, rfl, Own.nil_ _ _ _, nofun, Fr.refl _ _⟩
theorem info5 : (Tryz.prog.info? 5).map (fun i => (i.zero, i.size, i.bytes)) = some (some (.int .u8 0), 1, 1) := by kernel_rfl
theorem Bx.step {w wr w' : World} {A : Option Addr} {g' c' n x : Nat} {l : List Nat} {X : Int} (G1 : ∀ g, A = some ⟨g, 0, none⟩ → w.heap.size ≤ g) (F1 : Fr N0 w wr) (hn : l.length = n)
    (hO' : Own w' 5 1 (some ⟨g', 0, none⟩) (n + 1) c' (l.map u8v ++ [.int .u8 X])) (hF' : Fr (fun i => A = some ⟨i, 0, none⟩) wr w') (hA' : A = some ⟨g', 0, none⟩ ∨ wr.heap.size ≤ g') (hX : X = (x : Int)) :
    Bx w w' (.slice (some ⟨g', 0, none⟩) (n + 1) c') (l ++ [x]) := by
  subst hX
  refine ⟨some ⟨g', 0, none⟩, c', by rw [List.length_append, hn]; rfl, by rw [List.length_append, hn, List.map_append]; exact hO', ?_, F1.step hF' fun i hi => .inr (G1 i hi)⟩
  intro g e
  rcases hA' with h | h
  · exact G1 g (h.trans e)
  · injection e with e
    injection e with e
    rw [← e]
    exact Nat.le_trans F1.size h
theorem Bx.up {w w2 wr : World} {v : Value} {l : List Nat} (k : Bx w2 wr v l) (hF : Fr N0 w w2) : Bx w wr v l := by
  obtain ⟨A, c, h1, h2, h3, h4⟩ := k
  exact ⟨A, c, h1, h2, fun g e => Nat.le_trans hF.size (h3 g e), hF.trans h4⟩
theorem Bx.mk' {w wr : World} {A : Option Addr} {c n : Nat} {L l : List Nat} (hn : L.length = n) (hl : L = l) (hO : Own wr 5 1 A n c (L.map u8v)) (hg : ∀ g, A = some ⟨g, 0, none⟩ → w.heap.size ≤ g) (hF : Fr N0 w wr) : Bx w wr (.slice A n c) l := by
  subst hl hn
  exact ⟨A, c, rfl, hO, hg, hF⟩
theorem bytes_hi {h l : Nat} : bytesA ⟨true, h, l⟩ = (List.range 16).map (byteA ⟨true, h, l⟩) := rfl
theorem bytes_lo {h l : Nat} : bytesA ⟨false, h, l⟩ = (List.range 4).map (byteA ⟨false, h, l⟩) := rfl
section
variable {w : World}
end
end Go.Proofs.YtnklbeigikcfkaaGreatDoor
namespace Go.Proofs.YtnklbeigikcfkaaGreatDoor
open Go.RowKit
theorem bit_end {n k r : Nat} (hn : n < 18446744073709551616) (hr : r = n / 2 ^ k % 2) : wrap64 (bits .and .u64 ((n : Int) / 2 ^ k) 1) = (r : Int) := by
  have h := Nat.div_le_self n (2 ^ k)
  have e : (n : Int) / 2 ^ k = ((n / 2 ^ k : Nat) : Int) := by simp
  rw [e]
  generalize n / 2 ^ k = q at *
  rw [Go.and_one_u64 _ (by omega) (by omega), IntWalk.wrap64_in _ (by omega), hr]
  omega
section
variable {w : World}
end
end Go.Proofs.YtnklbeigikcfkaaGreatDoor
namespace Go.Proofs.YtnklbeigikcfkaaGreatDoor
open Go.RowKit
/-- The bytes of a number, so many, the greatest ahead. -/
def byN (k n : Nat) : List Nat := (List.range k).map fun i => n / 256 ^ (k - 1 - i) % 256
theorem byN_len (k n : Nat) : (byN k n).length = k := by simp [byN]
theorem byN_take {k n j : Nat} (h : j < k) : (byN k n).take (j + 1) = (byN k n).take j ++ [n / 256 ^ (k - 1 - j) % 256] := by
  rw [List.take_add_one]
  congr 1
  unfold byN
  rw [List.getElem?_map, List.getElem?_range h]
  rfl
/-- A slice that reads as these bytes. -/
def Sr (w : World) (v : Value) (L : List Nat) : Prop :=
  ∃ A c, v = .slice A L.length c ∧ ((A = none ∧ L = [] ∧ c = 0) ∨ ∃ b off, A = some ⟨b, off, none⟩ ∧ ∀ j x, L[j]? = some x → w.cell? ⟨b, off + j, none⟩ = some (u8v x))
theorem Sr.nil_ (w : World) : Sr w (.slice none 0 0) [] := ⟨none, 0, rfl, .inl ⟨rfl, rfl, rfl⟩⟩
theorem Bx.sr {w wr : World} {v : Value} {L : List Nat} (h : Bx w wr v L) : Sr wr v L := by
  obtain ⟨A, c, rfl, hO, hg, hF⟩ := h
  rcases hO.2 with ⟨rfl, h0, rfl⟩ | ⟨g, cur, rfl, hg', hnc, hcm, hcs, ht⟩
  · exact ⟨none, 0, rfl, .inl ⟨rfl, List.length_eq_zero_iff.1 h0, rfl⟩⟩
  · refine ⟨_, c, rfl, .inr ⟨g, 0, rfl, fun j x hj => ?_⟩⟩
    have hl : j < L.length := (List.getElem?_eq_some_iff.1 hj).1
    have := hO.cell j (by omega)
    rw [List.getElem?_map, hj] at this
    rw [Nat.zero_add]
    exact this
theorem addr_add (b o j : Nat) : (⟨b, o, none⟩ : Addr).add j = ⟨b, o + j, none⟩ := by
  unfold Addr.add
  by_cases h0 : j = 0
  · subst h0; simp
  · rw [if_neg h0]
theorem div_step (n c : Nat) : n / 256 ^ c / 256 = n / 256 ^ (c + 1) := by rw [Nat.pow_succ, ← Nat.div_div_eq_div_mul]
section
variable {w : World}
set_option maxHeartbeats 3200000 in
set_option maxRecDepth 100000 in
theorem rput (v : Value) (L : List Nat) (hv : Sr w v L) (hL : L.length ≤ 1000000) (k n : Nat) (hk1 : 1 ≤ k) (hk : k ≤ 8) (hn : n < 18446744073709551616) :
    Calls Tryz.prog 113 #[v, .int .i64 (k : Int), .int .u64 (n : Int)] w fun e w' => ∃ v', e = .returned v' ∧ Bx w w' v' (L ++ byN k n) := by
  obtain ⟨i0, hi, hz0, hz1, hz2⟩ := info_parts info5
  obtain ⟨A0, c0, rfl, hA⟩ := hv
  have h0 : (0 : Int) ≤ (k : Int) := by omega
  rcases hA with ⟨rfl, hL0, rfl⟩ | ⟨b, off, rfl, hc⟩
  · have hB : Bx w w (.slice none 0 0) L := by rw [hL0]; exact Bx.nil_ w
    have e0 : L.length = 0 := by rw [hL0]; rfl
    rw [e0]
    clear hL0 e0
    go_enter Tryz.func113, Tryz.ntmps113
    go_wp2_with (at_builtin; refine wpList_append0 w rfl (.tmp 11) (.tmp 12) 132 rfl 5 i0 Tryz.underlying132 hi none 0 0 [] rfl (Own.nil_ _ _ 1) rfl ?_)
    have HB := Lib.hid hB
    clear hB
    go_loopw [7, 8] (fun v i wr => ∃ q : Nat, q ≤ k ∧ i = .int .i64 ((q : Int) - 1) ∧ Bx w wr v (L ++ (byN k n).take (k - q))) (fun _ i _ => (RowKit.intOf i + 1).toNat)
    case atStart => exact ⟨k, Nat.le_refl _, rfl, by rw [Nat.sub_self, List.take_zero, List.append_nil]; exact HB.out⟩
    case round =>
      obtain ⟨q, hq, rfl, A, c, rfl, hO, hg, hF⟩ := hrel
      obtain ⟨M, hM⟩ : ∃ M, M = L ++ (byN k n).take (k - q) := ⟨_, rfl⟩
      rw [← hM] at hO ⊢
      have hlen : M.length = L.length + (k - q) := by rw [hM, List.length_append, List.length_take, byN_len]; omega
      obtain ⟨N, hN⟩ : ∃ N, N = M.length := ⟨_, rfl⟩
      rw [← hN] at hO ⊢
      have hN2 : N ≤ 1000008 := by omega
      have HN := Lib.hid hN
      have HM := Lib.hid hM
      have O1 := Lib.hid hO
      have G1 := Lib.hid hg
      have F1 := Lib.hid hF
      clear hO hg hF hM hlen hN
      rcases Nat.eq_zero_or_pos q with rfl | hq0
      · go_wp2_with fail
        go_ret
        refine ⟨_, rfl, ?_⟩
        have e : M = L ++ byN k n := by rw [HM.out, Nat.sub_zero, List.take_of_length_le (by rw [byN_len]; omega)]
        exact Bx.mk' HN.out.symm e O1.out G1.out F1.out
      · obtain ⟨r, rfl⟩ : ∃ r, q = r + 1 := ⟨q - 1, by omega⟩
        have er : (((r + 1 : Nat) : Int) - 1) = (r : Int) := by omega
        rw [er]
        clear er
        go_wp2_with fail
        go_loop [9, 10] (fun x i => ∃ j : Nat, j ≤ r ∧ i = .int .i64 (j : Int) ∧ x = .int .u64 ((n / 256 ^ j : Nat) : Int)) (fun _ i => r - (RowKit.intOf i).toNat)
        case atStart => exact ⟨0, Nat.zero_le _, rfl, by rw [Nat.pow_zero, Nat.div_one]⟩
        case round =>
          obtain ⟨j, hj, rfl, rfl⟩ := hrel
          have hle : n / 256 ^ j ≤ n := Nat.div_le_self _ _
          have HD := Lib.hid (div_step n j)
          obtain ⟨x, hx⟩ : ∃ x, x = n / 256 ^ j := ⟨_, rfl⟩
          rw [← hx] at hle HD ⊢
          have HX := Lib.hid hx
          clear hx
          by_cases hjr : j < r
          · have hjI : (j : Int) < (r : Int) := by omega
            go_wp2_with fail
            go_round
            case rel => exact ⟨j + 1, by omega, by go_num, by rw [← HD.out]; go_num⟩
            case measure => simp [RowKit.intOf]; omega
          · obtain rfl : j = r := by omega
            go_wp2_with (at_builtin; refine wpList_append1 wr rfl (.tmp 30) (.tmp 34) 132 rfl 5 i0 (.int .u8 0) 1 1 Tryz.underlying132 hi hz0 hz1 hz2 rfl (by omega) A N c _ rfl O1.out [.int .u8 ((x : Int) % 256)] rfl rfl ?_ ?_ ?_ ?_)
            · simp [Value.oneCell']
            · omega
            · omega
            · intro g' c' w' hO' hF' hA'
              have HB := Lib.hid (Bx.step G1.out F1.out HN.out.symm hO' hF' hA' (show _ = ((x % 256 : Nat) : Int) by omega))
              clear hO' hF' hA'
              go_wp2_with fail
              go_roundw
              case rel =>
                have e : M ++ [x % 256] = L ++ (byN k n).take (k - j) := by
                  rw [HM.out, HX.out, show k - j = (k - (j + 1)) + 1 by omega, byN_take (by omega), List.append_assoc, show k - 1 - (k - (j + 1)) = j by omega]
                exact ⟨j, by omega, by go_num, by rw [← e]; exact HB.out⟩
              case measure => simp [RowKit.intOf]
  · have HC := Lib.hid hc
    clear hc
    go_enter Tryz.func113, Tryz.ntmps113
    go_wp2_with (at_builtin; refine wpList_appendM w rfl (.tmp 11) (.tmp 12) 132 rfl 5 i0 _ 1 1 Tryz.underlying132 hi hz0 hz1 hz2 rfl (by omega) none 0 0 [] rfl (Own.nil_ _ _ _) ⟨b, off, none⟩ L.length c0 (L.map u8v) rfl (by simp) ?_ ?_ ?_ ?_ ?_)
    · intro j u hj
      rw [addr_add]
      rw [List.getElem?_map] at hj
      cases hx : L[j]? with
      | none => rw [hx] at hj; cases hj
      | some x => rw [hx] at hj; cases hj; exact HC.out j x hx
    · intro u hu
      obtain ⟨x, _, rfl⟩ := List.mem_map.1 hu
      rfl
    · omega
    · omega
    intro A1 c1 w1 hO1 hF1 hA1
    have hB : Bx w w1 (.slice A1 L.length c1) L := ⟨A1, c1, rfl, hO1, fun g e => by
      rcases hA1 with h | ⟨g', h, h2⟩
      · rw [h] at e; cases e
      · rw [h] at e; cases e; exact h2, hF1.mono fun i _ h => by cases h⟩
    clear hO1 hF1 hA1
    go_wp2_with fail
    have HB := Lib.hid hB
    clear hB
    go_loopw [7, 8] (fun v i wr => ∃ q : Nat, q ≤ k ∧ i = .int .i64 ((q : Int) - 1) ∧ Bx w wr v (L ++ (byN k n).take (k - q))) (fun _ i _ => (RowKit.intOf i + 1).toNat)
    case atStart => exact ⟨k, Nat.le_refl _, rfl, by rw [Nat.sub_self, List.take_zero, List.append_nil]; exact HB.out⟩
    case round =>
      obtain ⟨q, hq, rfl, A, c, rfl, hO, hg, hF⟩ := hrel
      obtain ⟨M, hM⟩ : ∃ M, M = L ++ (byN k n).take (k - q) := ⟨_, rfl⟩
      rw [← hM] at hO ⊢
      have hlen : M.length = L.length + (k - q) := by rw [hM, List.length_append, List.length_take, byN_len]; omega
      obtain ⟨N, hN⟩ : ∃ N, N = M.length := ⟨_, rfl⟩
      rw [← hN] at hO ⊢
      have hN2 : N ≤ 1000008 := by omega
      have HN := Lib.hid hN
      have HM := Lib.hid hM
      have O1 := Lib.hid hO
      have G1 := Lib.hid hg
      have F1 := Lib.hid hF
      clear hO hg hF hM hlen hN
      rcases Nat.eq_zero_or_pos q with rfl | hq0
      · go_wp2_with fail
        go_ret
        refine ⟨_, rfl, ?_⟩
        have e : M = L ++ byN k n := by rw [HM.out, Nat.sub_zero, List.take_of_length_le (by rw [byN_len]; omega)]
        exact Bx.mk' HN.out.symm e O1.out G1.out F1.out
      · obtain ⟨r, rfl⟩ : ∃ r, q = r + 1 := ⟨q - 1, by omega⟩
        have er : (((r + 1 : Nat) : Int) - 1) = (r : Int) := by omega
        rw [er]
        clear er
        go_wp2_with fail
        go_loop [9, 10] (fun x i => ∃ j : Nat, j ≤ r ∧ i = .int .i64 (j : Int) ∧ x = .int .u64 ((n / 256 ^ j : Nat) : Int)) (fun _ i => r - (RowKit.intOf i).toNat)
        case atStart => exact ⟨0, Nat.zero_le _, rfl, by rw [Nat.pow_zero, Nat.div_one]⟩
        case round =>
          obtain ⟨j, hj, rfl, rfl⟩ := hrel
          have hle : n / 256 ^ j ≤ n := Nat.div_le_self _ _
          have HD := Lib.hid (div_step n j)
          obtain ⟨x, hx⟩ : ∃ x, x = n / 256 ^ j := ⟨_, rfl⟩
          rw [← hx] at hle HD ⊢
          have HX := Lib.hid hx
          clear hx
          by_cases hjr : j < r
          · have hjI : (j : Int) < (r : Int) := by omega
            go_wp2_with fail
            go_round
            case rel => exact ⟨j + 1, by omega, by go_num, by rw [← HD.out]; go_num⟩
            case measure => simp [RowKit.intOf]; omega
          · obtain rfl : j = r := by omega
            go_wp2_with (at_builtin; refine wpList_append1 wr rfl (.tmp 30) (.tmp 34) 132 rfl 5 i0 (.int .u8 0) 1 1 Tryz.underlying132 hi hz0 hz1 hz2 rfl (by omega) A N c _ rfl O1.out [.int .u8 ((x : Int) % 256)] rfl rfl ?_ ?_ ?_ ?_)
            · simp [Value.oneCell']
            · omega
            · omega
            · intro g' c' w' hO' hF' hA'
              have HB := Lib.hid (Bx.step G1.out F1.out HN.out.symm hO' hF' hA' (show _ = ((x % 256 : Nat) : Int) by omega))
              clear hO' hF' hA'
              go_wp2_with fail
              go_roundw
              case rel =>
                have e : M ++ [x % 256] = L ++ (byN k n).take (k - j) := by
                  rw [HM.out, HX.out, show k - j = (k - (j + 1)) + 1 by omega, byN_take (by omega), List.append_assoc, show k - 1 - (k - (j + 1)) = j by omega]
                exact ⟨j, by omega, by go_num, by rw [← e]; exact HB.out⟩
              case measure => simp [RowKit.intOf]
end
end Go.Proofs.YtnklbeigikcfkaaGreatDoor
namespace Go.Proofs.YtnklbeigikcfkaaGreatDoor
open Go.RowKit
theorem byN_hi (h l : Nat) : byN 8 h ++ byN 8 l = bytesA ⟨true, h, l⟩ := by
  rw [bytes_hi]
  simp [byN, byteA, List.range_succ]
theorem byN_lo (l : Nat) : byN 4 l = bytesA ⟨false, 0, l⟩ := by
  rw [bytes_lo]
  simp [byN, byteA, List.range_succ]
section
variable {w : World}
set_option maxHeartbeats 3200000 in
set_option maxRecDepth 100000 in
theorem rbyt (a : Ad) (ho : a.ok) : Calls Tryz.prog 108 #[adV a] w fun e w' => ∃ v, e = .returned v ∧ Bx w w' v (if validA a = true then bytesA a else []) := by
  obtain ⟨s, h, l⟩ := a
  obtain ⟨ho1, ho2⟩ := ho
  simp only at ho1 ho2
  have c32 : ∀ (w : World) {b : Bool}, validA ⟨s, h, l⟩ = b → Calls Tryz.prog 88 #[.agg #[.bool s, .int .u64 (h : Int), .int .u64 (l : Int)]] w fun e w' => e = .returned (.bool b) ∧ Fr N0 w w' := fun w b hb => hb ▸ rval (w := w) ⟨s, h, l⟩
  by_cases hv : validA ⟨s, h, l⟩ = true
  · rw [if_pos hv]
    have k32 := fun w => c32 w hv
    have HV := Lib.hid hv
    clear c32 hv
    cases s with
    | false =>
      have hh : h = 0 := by
        have := HV.out
        unfold validA at this
        simp at this
        exact this.1
      have kp := fun (W : World) => rput (w := W) (.slice none 0 0) [] (Sr.nil_ W) (by decide) 4 l (by omega) (by omega) ho2
      rw [List.nil_append, byN_lo l] at kp
      subst hh
      go_enter Tryz.func108, Tryz.ntmps108
      unfold adV
      go_wp2_with fail
      have HA1 := Lib.hid (Blk.new w 30 #[Value.bool false, Value.int .u64 0, Value.int .u64 (l : Int)])
      have HF1 := Lib.hid (Fr.alloc (Fr.refl N0 w) (.cells #[Value.bool false, Value.int .u64 0, Value.int .u64 (l : Int)] 30))
      generalize w.alloc _ = w1 at *
      obtain ⟨g1, hg1⟩ : ∃ g1, g1 = w.heap.size := ⟨_, rfl⟩
      rw [← hg1] at HA1 ⊢
      have HG1 : Hid (w.heap.size ≤ g1) := Lib.hid (by omega)
      clear hg1
      have HZ1 : Hid (∀ W, Fr N0 w1 W → Blk W g1 30 #[Value.bool false, Value.int .u64 0, Value.int .u64 (l : Int)]) := Lib.hid fun W hf => HA1.out.fr hf id
      have F := Lib.hid (Fr.refl N0 w1)
      obtain ⟨z1_0, z1_1, z1_2⟩ := (HZ1.out _ F.out).c3
      go_wp2_with (first
        | (go_at_call 88; refine (k32 _).mono ?_; rintro e w2 ⟨rfl, hf⟩; have F := Lib.hid (F.out.trans hf); obtain ⟨z1_0, z1_1, z1_2⟩ := (HZ1.out _ F.out).c3)
        | (go_at_call 113; refine (kp _).mono ?_; rintro e w3 ⟨v3, rfl, B3⟩))
      go_ret
      exact ⟨_, rfl, B3.up (HF1.out.trans F.out)⟩
    | true =>
      have kp := fun (W : World) => rput (w := W) (.slice none 0 0) [] (Sr.nil_ W) (by decide) 8 h (by omega) (by omega) ho1
      have kq := fun (W : World) (v : Value) (hs : Sr W v (byN 8 h)) => rput (w := W) v (byN 8 h) hs (by rw [byN_len]; omega) 8 l (by omega) (by omega) ho2
      rw [List.nil_append] at kp
      rw [byN_hi h l] at kq
      obtain ⟨X, hX⟩ : ∃ X, X = byN 8 h := ⟨_, rfl⟩
      rw [← hX] at kp kq
      clear hX
      go_enter Tryz.func108, Tryz.ntmps108
      unfold adV
      go_wp2_with fail
      have HA1 := Lib.hid (Blk.new w 30 #[Value.bool true, Value.int .u64 (h : Int), Value.int .u64 (l : Int)])
      have HF1 := Lib.hid (Fr.alloc (Fr.refl N0 w) (.cells #[Value.bool true, Value.int .u64 (h : Int), Value.int .u64 (l : Int)] 30))
      generalize w.alloc _ = w1 at *
      obtain ⟨g1, hg1⟩ : ∃ g1, g1 = w.heap.size := ⟨_, rfl⟩
      rw [← hg1] at HA1 ⊢
      have HG1 : Hid (w.heap.size ≤ g1) := Lib.hid (by omega)
      clear hg1
      have HZ1 : Hid (∀ W, Fr N0 w1 W → Blk W g1 30 #[Value.bool true, Value.int .u64 (h : Int), Value.int .u64 (l : Int)]) := Lib.hid fun W hf => HA1.out.fr hf id
      have F := Lib.hid (Fr.refl N0 w1)
      obtain ⟨z1_0, z1_1, z1_2⟩ := (HZ1.out _ F.out).c3
      go_wp2_with (go_at_call 88; refine (k32 _).mono ?_; rintro e w2 ⟨rfl, hf⟩; have F := Lib.hid (F.out.trans hf); obtain ⟨z1_0, z1_1, z1_2⟩ := (HZ1.out _ F.out).c3)
      have HZA := Lib.hid fun (W : World) (hf : Fr N0 w2 W) => (HZ1.out W (F.out.trans hf)).c3
      have HF2 := Lib.hid (HF1.out.trans F.out)
      go_region_held3 (fun w' => w'.cell? ⟨g1, 0, none⟩ = some (.bool true) ∧ w'.cell? ⟨g1, 1, none⟩ = some (.int .u64 (h : Int)) ∧ w'.cell? ⟨g1, 2, none⟩ = some (.int .u64 (l : Int))) (first | go_keep | exact HZA.out _ F5.out | exact HZA.out _ F4.out) ((first
        | (go_at_call_of 113 h; refine (kp _).mono ?_; rintro e w4 ⟨v4, rfl, B4⟩; have F4 := Lib.hid (Fr.trans (by repeat first | exact Fr.refl _ _ | refine Fr.drew ?_ | refine Fr.drewN ?_ _) (show Fr N0 _ w4 from B4.choose_spec.choose_spec.2.2.2) : Fr N0 w2 w4))
        | (go_at_call_of 113 l; refine (kq _ v4 (show Sr _ v4 X from B4.sr)).mono ?_; rintro e w5 ⟨v5, rfl, B5⟩; have F5 := Lib.hid (F4.out.trans (show Fr N0 w4 w5 from B5.choose_spec.choose_spec.2.2.2)))))
      go_wp2_with fail
      go_ret
      exact ⟨_, rfl, (show Bx w4 w5 v5 _ from B5).up (HF2.out.trans F4.out)⟩
  · rw [if_neg hv]
    rw [Bool.not_eq_true] at hv
    have k32 := fun w => c32 w hv
    clear c32 hv
    go_enter Tryz.func108, Tryz.ntmps108
    unfold adV
    go_wp2_with fail
    have HA1 := Lib.hid (Blk.new w 30 #[Value.bool s, Value.int .u64 (h : Int), Value.int .u64 (l : Int)])
    have HF1 := Lib.hid (Fr.alloc (Fr.refl N0 w) (.cells #[Value.bool s, Value.int .u64 (h : Int), Value.int .u64 (l : Int)] 30))
    generalize w.alloc _ = w1 at *
    obtain ⟨g1, hg1⟩ : ∃ g1, g1 = w.heap.size := ⟨_, rfl⟩
    rw [← hg1] at HA1 ⊢
    have HG1 : Hid (w.heap.size ≤ g1) := Lib.hid (by omega)
    clear hg1
    have HZ1 : Hid (∀ W, Fr N0 w1 W → Blk W g1 30 #[Value.bool s, Value.int .u64 (h : Int), Value.int .u64 (l : Int)]) := Lib.hid fun W hf => HA1.out.fr hf id
    have F := Lib.hid (Fr.refl N0 w1)
    obtain ⟨z1_0, z1_1, z1_2⟩ := (HZ1.out _ F.out).c3
    go_wp2_with (first
      | (go_at_call 88; refine (k32 _).mono ?_; rintro e w2 ⟨rfl, hf⟩; have F := Lib.hid (F.out.trans hf); obtain ⟨z1_0, z1_1, z1_2⟩ := (HZ1.out _ F.out).c3))
    go_ret
    exact ⟨_, rfl, (Bx.nil_ _).up (HF1.out.trans F.out)⟩
end
end Go.Proofs.YtnklbeigikcfkaaGreatDoor
namespace Go.Proofs.YtnklbeigikcfkaaGreatDoor
open Go.RowKit
section
variable {w : World}
set_option maxHeartbeats 3200000 in
set_option maxRecDepth 100000 in
theorem rbit (a : Ad) (ho : a.ok) (m : Int) (h1 : -9223372036854775808 ≤ m) (h2 : m ≤ 9223372036854775807) : Calls Tryz.prog 92 #[adV a, .int .i64 m] w fun e w' => e = .returned (.int .i64 (bitA a m)) ∧ Fr N0 w w' := by
  obtain ⟨s, h, l⟩ := a
  have HO := Lib.hid ho
  have c32 : ∀ (w : World) {b : Bool}, validA ⟨s, h, l⟩ = b → Calls Tryz.prog 88 #[.agg #[.bool s, .int .u64 (h : Int), .int .u64 (l : Int)]] w fun e w' => e = .returned (.bool b) ∧ Fr N0 w w' := fun w b hb => hb ▸ rval (w := w) ⟨s, h, l⟩
  obtain ⟨wi, hwi⟩ : ∃ wi, wi = widthA ⟨s, h, l⟩ := ⟨_, rfl⟩
  have hw := Lib.hid (show wi ≤ 128 by rw [hwi]; unfold widthA; split <;> omega)
  have c33 : ∀ w : World, Calls Tryz.prog 89 #[.agg #[.bool s, .int .u64 (h : Int), .int .u64 (l : Int)]] w fun e w' => e = .returned (.int .i64 (wi : Int)) ∧ Fr N0 w w' := fun w => by rw [hwi]; exact rwid (w := w) ⟨s, h, l⟩
  have HW := Lib.hid hwi
  clear hwi
  have key : ∀ b, (validA ⟨s, h, l⟩ = b ∧ ((b = false ∧ bitA ⟨s, h, l⟩ m = 0) ∨ (b = true ∧ m < 0 ∧ bitA ⟨s, h, l⟩ m = 0) ∨ (b = true ∧ 0 ≤ m ∧ decide (m < 0) = false ∧ (wi : Int) ≤ m ∧ bitA ⟨s, h, l⟩ m = 0))) →
      Calls Tryz.prog 92 #[adV ⟨s, h, l⟩, .int .i64 m] w fun e w' => e = .returned (.int .i64 (bitA ⟨s, h, l⟩ m)) ∧ Fr N0 w w' := by
    rintro b ⟨e1, hc⟩
    have k32 := fun w => c32 w e1
    clear c32 e1 ho
    go_enter Tryz.func92, Tryz.ntmps92
    unfold adV
    go_wp2_with fail
    have HA1 := Lib.hid (Blk.new w 30 #[Value.bool s, Value.int .u64 (h : Int), Value.int .u64 (l : Int)])
    have HF1 := Lib.hid (Fr.alloc (Fr.refl N0 w) (.cells #[Value.bool s, Value.int .u64 (h : Int), Value.int .u64 (l : Int)] 30))
    generalize w.alloc _ = w1 at *
    obtain ⟨g1, hg1⟩ : ∃ g1, g1 = w.heap.size := ⟨_, rfl⟩
    rw [← hg1] at HA1 ⊢
    have HG1 : Hid (w.heap.size ≤ g1) := Lib.hid (by omega)
    clear hg1
    have HZ1 : Hid (∀ W, Fr N0 w1 W → Blk W g1 30 #[Value.bool s, Value.int .u64 (h : Int), Value.int .u64 (l : Int)]) := Lib.hid fun W hf => HA1.out.fr hf id
    have F := Lib.hid (Fr.refl N0 w1)
    obtain ⟨z1_0, z1_1, z1_2⟩ := (HZ1.out _ F.out).c3
    rcases hc with ⟨rfl, he⟩ | ⟨rfl, hm, he⟩ | ⟨rfl, hm, hd0, hd, he⟩
    all_goals
      have HE := Lib.hid he
      clear he
      (go_wp2_with (first
        | (go_at_call 88; refine (k32 _).mono ?_; rintro e w2 ⟨rfl, hf⟩; have F := Lib.hid (F.out.trans hf); obtain ⟨z1_0, z1_1, z1_2⟩ := (HZ1.out _ F.out).c3)
        | (go_at_call 89; refine (c33 _).mono ?_; rintro e w2 ⟨rfl, hf⟩; have F := Lib.hid (F.out.trans hf); obtain ⟨z1_0, z1_1, z1_2⟩ := (HZ1.out _ F.out).c3)))
      go_ret
      exact ⟨ret_eq (by rw [HE.out]; rfl), HF1.out.trans F.out⟩
  have e0 : ∀ {p : Prop} [Decidable p], ¬ p → decide p = false := fun h => decide_eq_false h
  by_cases hv : validA ⟨s, h, l⟩ = true
  · by_cases hm : m < 0
    · exact key _ ⟨rfl, .inr (.inl ⟨hv, hm, if_pos (.inr (.inl hm))⟩)⟩
    · by_cases hm2 : (wi : Int) ≤ m
      · exact key _ ⟨rfl, .inr (.inr ⟨hv, by omega, e0 hm, hm2, if_pos (.inr (.inr (by rw [← HW.out]; exact hm2)))⟩)⟩
      · obtain ⟨i, rfl⟩ : ∃ i : Nat, m = i := ⟨m.toNat, by omega⟩
        have hin : i < wi := by omega
        have k32 := fun w => c32 w hv
        have hn : wi = 8 * nby ⟨s, h, l⟩ := by rw [HW.out]; exact nby_w _
        have hd0 := e0 hm
        have hd : decide (wi ≤ i) = false := decide_eq_false (by omega)
        have kb : ∀ w : World, Calls Tryz.prog 108 #[.agg #[.bool s, .int .u64 (h : Int), .int .u64 (l : Int)]] w fun e w' => ∃ v, e = .returned v ∧ Bx w w' v (bytesA ⟨s, h, l⟩) := fun w => by
          have := rbyt (w := w) ⟨s, h, l⟩ ho
          rwa [if_pos hv] at this
        have HB := Lib.hid (byte_bitA (a := ⟨s, h, l⟩) hv (i := i) (by rw [← HW.out]; exact hin))
        obtain ⟨q, hq⟩ : ∃ q, q = i / 8 := ⟨_, rfl⟩
        obtain ⟨r, hr⟩ : ∃ r, r = i % 8 := ⟨_, rfl⟩
        have hqn : q < nby ⟨s, h, l⟩ := by omega
        have hr8 : r ≤ 7 := by omega
        have hi0 : (0 : Int) ≤ (i : Int) := by omega
        have E1 := Lib.hid (show (i : Int) / 8 = (q : Int) by omega)
        have E2 := Lib.hid (show (i : Int) % 8 = (r : Int) by omega)
        rw [← hq, ← hr] at HB
        have HX := Lib.hid (bytesA_at (a := ⟨s, h, l⟩) (j := q) hqn)
        have HLN := Lib.hid (bytesA_len ⟨s, h, l⟩)
        obtain ⟨x, hx⟩ : ∃ x, x = byteA ⟨s, h, l⟩ q := ⟨_, rfl⟩
        have hx256 : x < 256 := by rw [hx]; exact byteA_lt _ _
        rw [← hx] at HB HX
        obtain ⟨L, hL⟩ : ∃ L, L = bytesA ⟨s, h, l⟩ := ⟨_, rfl⟩
        rw [← hL] at HX HLN kb
        obtain ⟨nb, hnb⟩ : ∃ nb, nb = nby ⟨s, h, l⟩ := ⟨_, rfl⟩
        have hlen : L.length = nb := by rw [HLN.out, hnb]; rfl
        rw [← hnb] at hqn
        have hnb16 : nb ≤ 16 := by rw [hnb]; unfold nby; split <;> omega
        have HL := Lib.hid hlen
        clear HLN hlen hnb hL hx hq hr hn hin hm hm2 hv key c32 e0 ho
        go_enter Tryz.func92, Tryz.ntmps92
        unfold adV
        go_wp2_with fail
        have HA1 := Lib.hid (Blk.new w 30 #[Value.bool s, Value.int .u64 (h : Int), Value.int .u64 (l : Int)])
        have HF1 := Lib.hid (Fr.alloc (Fr.refl N0 w) (.cells #[Value.bool s, Value.int .u64 (h : Int), Value.int .u64 (l : Int)] 30))
        generalize w.alloc _ = w1 at *
        obtain ⟨g1, hg1⟩ : ∃ g1, g1 = w.heap.size := ⟨_, rfl⟩
        rw [← hg1] at HA1 ⊢
        have HG1 : Hid (w.heap.size ≤ g1) := Lib.hid (by omega)
        clear hg1
        have HZ1 : Hid (∀ W, Fr N0 w1 W → Blk W g1 30 #[Value.bool s, Value.int .u64 (h : Int), Value.int .u64 (l : Int)]) := Lib.hid fun W hf => HA1.out.fr hf id
        have F := Lib.hid (Fr.refl N0 w1)
        obtain ⟨z1_0, z1_1, z1_2⟩ := (HZ1.out _ F.out).c3
        (go_wp2_with (first
          | (go_at_call 88; refine (k32 _).mono ?_; rintro e w2 ⟨rfl, hf⟩; have F := Lib.hid (F.out.trans hf); obtain ⟨z1_0, z1_1, z1_2⟩ := (HZ1.out _ F.out).c3)
          | (go_at_call 89; refine (c33 _).mono ?_; rintro e w3 ⟨rfl, hf⟩; have F := Lib.hid (F.out.trans hf); obtain ⟨z1_0, z1_1, z1_2⟩ := (HZ1.out _ F.out).c3)))
        refine (kb _).mono ?_
        rintro e w4 ⟨v, rfl, A, c, rfl, hO, -, hf4⟩
        rw [HL.out] at hO ⊢
        obtain ⟨g, rfl⟩ := hO.some_ (by omega)
        have y := hO.cell q (by omega)
        rw [List.getElem?_map, HX.out] at y
        replace y : w4.cell? ⟨g, q, none⟩ = some (.int .u8 (x : Int)) := y
        have HF4 := Lib.hid (HF1.out.trans (F.out.trans hf4))
        clear hO hf4 kb k32 c33
        have e1 := E1.out
        have e2 := E2.out
        go_wp2_with fail
        have EE := Lib.hid e2
        clear e1 e2
        go_loop [7, 8] (fun c k => ∃ j : Nat, r + j ≤ 7 ∧ k = .int .i64 ((r + j : Nat) : Int) ∧ c = .int .i64 ((x / 2 ^ j : Nat) : Int)) (fun _ k => 7 - (RowKit.intOf k).toNat)
        case atStart => exact ⟨0, by omega, by rw [EE.out]; rfl, by rw [Nat.pow_zero, Nat.div_one]⟩
        case round =>
          obtain ⟨j, hj, rfl, rfl⟩ := hrel
          have hle : x / 2 ^ j ≤ x := Nat.div_le_self _ _
          have HD := Lib.hid (show x / 2 ^ j / 2 = x / 2 ^ (j + 1) by rw [Nat.pow_succ, ← Nat.div_div_eq_div_mul])
          obtain ⟨z, hz⟩ : ∃ z, z = x / 2 ^ j := ⟨_, rfl⟩
          rw [← hz] at hle HD ⊢
          have HZ := Lib.hid hz
          clear hz
          obtain ⟨t, ht⟩ : ∃ t, t = r + j := ⟨_, rfl⟩
          rw [← ht] at hj ⊢
          have HT := Lib.hid ht
          clear ht
          by_cases hjr : t < 7
          · have hjI : (t : Int) < 7 := by omega
            go_wp2_with fail
            go_round
            case rel => exact ⟨j + 1, by have := HT.out; omega, by rw [← Nat.add_assoc, ← HT.out]; go_num, by rw [← HD.out]; go_num⟩
            case measure => simp [RowKit.intOf]; omega
          · obtain rfl : t = 7 := by omega
            go_wp2_with fail
            go_ret
            refine ⟨ret_eq ?_, HF4.out⟩
            have h3 := HB.out
            rw [show 7 - r = j by have := HT.out; omega, ← HZ.out] at h3
            rw [← h3]
            omega
  · exact key _ ⟨rfl, .inl ⟨by simpa using hv, if_pos (.inl (by simpa using hv))⟩⟩
end
end Go.Proofs.YtnklbeigikcfkaaGreatDoor
namespace Go.Proofs.YtnklbeigikcfkaaGreatDoor
open Go.RowKit
def i64v (x : Nat) : Value := .int .i64 (x : Int)
def bitsA (b : Ad) : List Nat := (List.range (widthA b)).map fun (i : Nat) => bitA b (i : Int)
theorem bitsA_len (b : Ad) : (bitsA b).length = widthA b := by simp [bitsA]
theorem bitsA_at {b : Ad} {i : Nat} (h : i < widthA b) : (bitsA b)[i]? = some (bitA b (i : Int)) := by
  unfold bitsA
  rw [List.getElem?_map, List.getElem?_range h]
  rfl
theorem ofAt_six (b : Ad) (i : Nat) : (ofAt b i).six = b.six := by
  unfold ofAt
  cases h : b.six <;> simp
  split <;> rfl
theorem ofAt_le (b : Ad) (i : Nat) : (ofAt b i).hi ≤ b.hi ∧ (ofAt b i).lo ≤ b.lo := by
  unfold ofAt
  cases h : b.six
  · simp [Nat.div_le_self]
  · simp
    split <;> simp [Nat.div_le_self]
section
variable {w : World}
set_option maxHeartbeats 3200000 in
set_option maxRecDepth 100000 in
theorem rof (b : Ad) (ho : b.ok) (hv : validA b = true) (g n : Nat) (hn : n = widthA b) (hB : Blk w g 3 ((bitsA b).map i64v).toArray) :
    Calls Tryz.prog 107 #[.bool b.six, .slice (some ⟨g, 0, none⟩) n n] w fun e w' => e = .returned (adV b) ∧ Fr N0 w w' := by
  have H0 := Lib.hid (ofAt_zero ho hv)
  have H1 := Lib.hid (ofAt_all hv)
  have HS := Lib.hid fun i (hi : i < widthA b) => ofAt_step ho hv hi
  have HB := Lib.hid hB
  have HN := Lib.hid hn
  have HO := Lib.hid ho
  obtain ⟨s, hs⟩ : ∃ s, s = b.six := ⟨_, rfl⟩
  rw [← hs]
  have HSX := Lib.hid hs
  have hn128 : n ≤ 128 := by rw [hn]; unfold widthA; split <;> omega
  have hlt0 := hB.lt
  clear hB hn hs ho hv
  go_enter Tryz.func107, Tryz.ntmps107
  go_wp2_with fail
  have HF1 := Lib.hid (Fr.alloc (Fr.alloc (Fr.refl N0 w) (.cells #[.bool false, .int .u64 0, .int .u64 0] 30)) (.cells #[.bool s, .int .u64 0, .int .u64 0] 30))
  have HA4 := Lib.hid ((Blk.new w 30 #[.bool false, .int .u64 0, .int .u64 0]).alloc (.cells #[.bool s, .int .u64 0, .int .u64 0] 30))
  have HA5 := Lib.hid (Blk.alloc2 w (.cells #[.bool false, .int .u64 0, .int .u64 0] 30) 30 #[.bool s, .int .u64 0, .int .u64 0])
  have HBn := Lib.hid ((HB.out.alloc (.cells #[.bool false, .int .u64 0, .int .u64 0] 30)).alloc (.cells #[.bool s, .int .u64 0, .int .u64 0] 30))
  generalize World.alloc (w.alloc _) _ = w1 at *
  obtain ⟨g5, hg5⟩ : ∃ g, g = w.heap.size + 1 := ⟨_, rfl⟩
  rw [← hg5] at HA5 ⊢
  obtain ⟨g4, hg4⟩ : ∃ g, g = w.heap.size := ⟨_, rfl⟩
  rw [← hg4] at HA4 ⊢
  have N45 := Lib.hid (show g4 ≠ g5 by omega)
  have NG5 := Lib.hid (show g ≠ g5 by omega)
  have HG5 := Lib.hid (show w.heap.size ≤ g5 by omega)
  have HG4 := Lib.hid (show w.heap.size ≤ g4 by omega)
  clear hg4 hg5 hlt0 HB
  go_loopw [6] (fun i wr => ∃ j : Nat, j ≤ n ∧ i = .int .i64 (j : Int) ∧ Blk wr g5 30 #[.bool s, .int .u64 ((ofAt b j).hi : Int), .int .u64 ((ofAt b j).lo : Int)] ∧ Fr (fun i => i = g5) w1 wr) (fun i _ => n + 1 - (RowKit.intOf i).toNat)
  case atStart => exact ⟨0, Nat.zero_le _, rfl, by rw [H0.out]; exact HA5.out, Fr.refl _ _⟩
  case round =>
    obtain ⟨j, hj, rfl, hb5, hF⟩ := hrel
    have B5 := Lib.hid hb5
    have G := Lib.hid hF
    have BG := Lib.hid (HBn.out.fr hF NG5.out)
    have hle := ofAt_le b j
    have hle' := ofAt_le b (j + 1)
    have ho := HO.out
    unfold Ad.ok at ho
    clear hb5 hF
    by_cases hjn : j < n
    · have hx := bitsA_at (b := b) (i := j) (by rw [← HN.out]; exact hjn)
      have hstep := HS.out j (by rw [← HN.out]; exact hjn)
      have hx2 := bit_lt2 b (j : Int)
      generalize bitA b (j : Int) = x at *
      have y := BG.out.cell j
      rw [List.getElem?_toArray, List.getElem?_map, hx] at y
      replace y : wr.cell? ⟨g, j, none⟩ = some (.int .i64 (x : Int)) := y
      obtain ⟨oj, hoj⟩ : ∃ o, o = ofAt b j := ⟨_, rfl⟩
      obtain ⟨ok, hok⟩ : ∃ o, o = ofAt b (j + 1) := ⟨_, rfl⟩
      have HOK := Lib.hid hok
      rw [← hoj] at B5 hle hstep
      rw [← hok] at hle' hstep
      rw [← HSX.out] at hstep
      obtain ⟨z0, z1, z2⟩ := B5.out.c3
      have fz1 := B5.out.frozen 1
      have fz2 := B5.out.frozen 2
      obtain ⟨os, oh, ol⟩ := oj
      obtain ⟨ks, kh, kl⟩ := ok
      simp only at hle hle' z1 z2 hstep
      clear hoj hok hx
      cases s with
      | false =>
        rw [if_neg (by simp)] at hstep
        rw [Ad.mk.injEq] at hstep
        have HST := Lib.hid hstep
        have hkl : 2 * ol + x < 18446744073709551616 := by omega
        clear hstep
        go_wp2_with fail
        go_region
        all_goals go_wp2_with fail
        all_goals refine ⟨⟨j + 1, by omega, by go_num, ?_, ?_⟩, by simp [RowKit.intOf]; omega⟩
        · rw [← HOK.out, HST.out.2.1, HST.out.2.2]
          exact (B5.out.set_ 2 _).drew
        · exact (G.out.setCell (.inl rfl) _).drew
      | true =>
        by_cases h64 : j < 64
        · have h64I : (j : Int) < 64 := by omega
          rw [if_pos ⟨rfl, h64⟩, Ad.mk.injEq] at hstep
          have HST := Lib.hid hstep
          have hkl : 2 * oh + x < 18446744073709551616 := by omega
          clear hstep
          go_wp2_with fail
          go_region
          all_goals go_wp2_with fail
          all_goals refine ⟨⟨j + 1, by omega, by go_num, ?_, ?_⟩, by simp [RowKit.intOf]; omega⟩
          · rw [← HOK.out, HST.out.2.1, HST.out.2.2]
            exact (B5.out.set_ 1 _).drew
          · exact (G.out.setCell (.inl rfl) _).drew
        · have h64I : decide ((j : Int) < 64) = false := decide_eq_false (by omega)
          rw [if_neg (by simp; omega), Ad.mk.injEq] at hstep
          have HST := Lib.hid hstep
          have hkl : 2 * ol + x < 18446744073709551616 := by omega
          clear hstep
          go_wp2_with fail
          go_region
          all_goals go_wp2_with fail
          all_goals refine ⟨⟨j + 1, by omega, by go_num, ?_, ?_⟩, by simp [RowKit.intOf]; omega⟩
          · rw [← HOK.out, HST.out.2.1, HST.out.2.2]
            exact (B5.out.set_ 2 _).drew
          · exact (G.out.setCell (.inl rfl) _).drew
    · obtain rfl : j = n := by omega
      have BF : Hid (Blk wr g5 30 #[.bool s, .int .u64 (b.hi : Int), .int .u64 (b.lo : Int)]) := by
        have e : ofAt b j = b := by rw [HN.out]; exact H1.out
        rw [e] at B5
        exact B5
      have B4 := Lib.hid (HA4.out.fr G.out N45.out)
      obtain ⟨z0, z1, z2⟩ := BF.out.c3
      clear hle hle' B5
      go_wp2_with (refine wpList_store_row rfl 30 _ _ rfl g4 _ rfl rfl _ _ B4.out rfl rfl (by simp [Value.oneCell']) ?_)
      refine ret_cell rfl rfl (B4.out.row _) Tryz.underlying30 rfl ⟨?_, Fr.setRow (HF1.out.step G.out fun i hi => .inr (hi ▸ HG5.out)) (.inr HG4.out) _⟩
      unfold adV
      rw [HSX.out]
end
end Go.Proofs.YtnklbeigikcfkaaGreatDoor
namespace Go.Proofs.YtnklbeigikcfkaaGreatDoor
open Go.RowKit
/-- The first bits of an address, the others 0. -/
def preB (a : Ad) (j : Nat) : List Nat := (List.range (widthA a)).map fun (i : Nat) => if i < j then bitA a (i : Int) else 0
theorem preB_len (a : Ad) (j : Nat) : (preB a j).length = widthA a := by simp [preB]
theorem preB_at {a : Ad} {j i : Nat} (h : i < widthA a) : (preB a j)[i]? = some (if i < j then bitA a (i : Int) else 0) := by
  unfold preB
  rw [List.getElem?_map, List.getElem?_range h]
  rfl
theorem preB_zero (a : Ad) : preB a 0 = List.replicate (widthA a) 0 := by
  unfold preB
  apply List.ext_getElem?
  intro k
  by_cases hk : k < widthA a
  · rw [List.getElem?_map, List.getElem?_range hk, List.getElem?_replicate_of_lt hk]; rfl
  · rw [List.getElem?_eq_none (by simp; omega), List.getElem?_eq_none (by simp; omega)]
theorem preB_set {a : Ad} {j : Nat} (hj : j < widthA a) : (preB a j).set j (bitA a (j : Int)) = preB a (j + 1) := by
  apply List.ext_getElem?
  intro k
  by_cases hk : k < widthA a
  · rw [List.getElem?_set, preB_at hk, preB_len]
    by_cases e : j = k
    · subst e
      rw [if_pos rfl, if_pos hj, preB_at hk, if_pos (by omega)]
    · rw [if_neg e, preB_at hk]
      by_cases h2 : k < j
      · rw [if_pos h2, if_pos (by omega)]
      · rw [if_neg h2, if_neg (by omega)]
  · rw [List.getElem?_eq_none (by simp [preB]; omega), List.getElem?_eq_none (by simp [preB]; omega)]
theorem preB_cut {a : Ad} (ho : a.ok) (hv : validA a = true) {m : Nat} (hm : m ≤ widthA a) : preB a m = bitsA (cutA a (m : Int)) := by
  have hw : widthA (cutA a (m : Int)) = widthA a := by unfold widthA; rw [cut_six]
  unfold preB bitsA
  rw [hw]
  refine List.map_congr_left fun i hi => ?_
  rw [bitA_cut ho hv hm (List.mem_range.1 hi)]
theorem made_eq (z : Value) (n : Nat) : madeCells #[z] n = (List.replicate n z).toArray := by
  rw [← toList_madeCells_one]
theorem info3 : (Tryz.prog.info? 3).map (fun i => (i.zero, i.size, i.bytes)) = some (some (.int .i64 0), 1, 8) := by kernel_rfl
section
variable {w : World}
set_option maxHeartbeats 3200000 in
set_option maxRecDepth 100000 in
theorem rcut (a : Ad) (ho : a.ok) (hv : validA a = true) (m : Nat) (hm : m ≤ widthA a) :
    Calls Tryz.prog 90 #[adV a, .int .i64 (m : Int)] w fun e w' => e = .returned (adV (cutA a (m : Int))) ∧ Fr N0 w w' := by
  obtain ⟨i0, hi, hz0, hz1, hz2⟩ := info_parts info3
  have HPC := Lib.hid (preB_cut ho hv hm)
  have HP0 := Lib.hid (preB_zero a)
  have HPA := Lib.hid fun (j i : Nat) (h : i < widthA a) => preB_at (a := a) (j := j) h
  have HPS := Lib.hid fun (j : Nat) (h : j < widthA a) => preB_set (a := a) h
  have HC := Lib.hid fun (w : World) (g n : Nat) (hn : n = widthA (cutA a (m : Int))) (hB : Blk w g 3 ((bitsA (cutA a (m : Int))).map i64v).toArray) => rof (w := w) (cutA a (m : Int)) (cut_ok ho _) (cut_valid hv _) g n hn hB
  have HCS := Lib.hid (cut_six a (m : Int))
  have HCW := Lib.hid (show widthA (cutA a (m : Int)) = widthA a by unfold widthA; rw [cut_six])
  obtain ⟨b, hb⟩ : ∃ b, b = cutA a (m : Int) := ⟨_, rfl⟩
  rw [← hb] at HPC HC HCS HCW ⊢
  clear hb
  obtain ⟨n, hn⟩ : ∃ n, n = widthA a := ⟨_, rfl⟩
  have kw : ∀ w : World, Calls Tryz.prog 89 #[adV a] w fun e w' => e = .returned (.int .i64 (n : Int)) ∧ Fr N0 w w' := fun w => by rw [hn]; exact rwid a
  have kb := fun (w : World) (i : Int) (h1 : -9223372036854775808 ≤ i) (h2 : i ≤ 9223372036854775807) => rbit (w := w) a ho i h1 h2
  have hn128 : n ≤ 128 := by rw [hn]; unfold widthA; split <;> omega
  have hmk := fun W => run_make_rowN (P := Tryz.prog) 130 3 i0 _ Tryz.underlying130 hi hz0 .i64 .i64 n n (Nat.le_refl _) (by rw [hz2]; omega) (by omega) W
  rw [hz1] at hmk
  simp only [Nat.mul_one] at hmk
  rw [show (Value.int IntKind.i64 0).cells = #[Value.int IntKind.i64 0] from rfl] at hmk
  rw [← hn] at hm HP0 HPA HPS HCW
  have HN := Lib.hid hn
  clear ho hv hn hz0 hz1 hz2 hi
  obtain ⟨s, h, l⟩ := a
  unfold adV at kw kb
  go_enter Tryz.func90, Tryz.ntmps90
  unfold adV
  go_wp2_with fail
  have HA1 := Lib.hid ((Blk.new w 30 #[Value.bool s, Value.int .u64 (h : Int), Value.int .u64 (l : Int)]).alloc (.cells #[Value.bool false, Value.int .u64 0, Value.int .u64 0] 30))
  have HA2 := Lib.hid (Blk.alloc2 w (.cells #[Value.bool s, Value.int .u64 (h : Int), Value.int .u64 (l : Int)] 30) 30 #[Value.bool false, Value.int .u64 0, Value.int .u64 0])
  have HF1 := Lib.hid (Fr.alloc (Fr.alloc (Fr.refl N0 w) (.cells #[Value.bool s, Value.int .u64 (h : Int), Value.int .u64 (l : Int)] 30)) (.cells #[Value.bool false, Value.int .u64 0, Value.int .u64 0] 30))
  generalize World.alloc (w.alloc _) _ = w1 at *
  obtain ⟨g2, hg2⟩ : ∃ g2, g2 = w.heap.size + 1 := ⟨_, rfl⟩
  rw [← hg2] at HA2 ⊢
  have HG2 : Hid (w.heap.size ≤ g2) := Lib.hid (by omega)
  obtain ⟨g1, hg1⟩ : ∃ g1, g1 = w.heap.size := ⟨_, rfl⟩
  rw [← hg1] at HA1 ⊢
  have HG1 : Hid (w.heap.size ≤ g1) := Lib.hid (by omega)
  have HN1_2 : Hid (g1 ≠ g2) := Lib.hid (by omega)
  clear hg1 hg2
  have HZ1 : Hid (∀ W, Fr N0 w1 W → Blk W g1 30 #[Value.bool s, Value.int .u64 (h : Int), Value.int .u64 (l : Int)]) := Lib.hid fun W hf => HA1.out.fr hf id
  have HZ2 : Hid (∀ W, Fr N0 w1 W → Blk W g2 30 #[Value.bool false, Value.int .u64 0, Value.int .u64 0]) := Lib.hid fun W hf => HA2.out.fr hf id
  have F := Lib.hid (Fr.refl N0 w1)
  obtain ⟨z1_0, z1_1, z1_2⟩ := (HZ1.out _ F.out).c3
  obtain ⟨z2_0, z2_1, z2_2⟩ := (HZ2.out _ F.out).c3
  (go_wp2_with (first
    | (go_at_call 89; refine (kw _).mono ?_; rintro e w2 ⟨rfl, hf⟩; have F := Lib.hid (F.out.trans hf); obtain ⟨z1_0, z1_1, z1_2⟩ := (HZ1.out _ F.out).c3; obtain ⟨z2_0, z2_1, z2_2⟩ := (HZ2.out _ F.out).c3)))
  have HF2 := Lib.hid (HF1.out.trans F.out)
  have HB := Lib.hid (Blk.new w2 3 (madeCells #[Value.int IntKind.i64 0] n))
  have HF3 := Lib.hid (Fr.alloc (Fr.refl N0 w2) (.cells (madeCells #[Value.int IntKind.i64 0] n) 3))
  have HY1 := Lib.hid ((HZ1.out _ F.out).alloc (.cells (madeCells #[Value.int IntKind.i64 0] n) 3))
  have HY2 := Lib.hid ((HZ2.out _ F.out).alloc (.cells (madeCells #[Value.int IntKind.i64 0] n) 3))
  have hlt1 := (HZ1.out _ F.out).lt
  have hlt2 := (HZ2.out _ F.out).lt
  generalize w2.alloc _ = w3 at *
  obtain ⟨g3, hg3⟩ : ∃ g, g = w2.heap.size := ⟨_, rfl⟩
  rw [← hg3] at HB ⊢
  have N13 := Lib.hid (show g1 ≠ g3 by omega)
  have N23 := Lib.hid (show g2 ≠ g3 by omega)
  have HG3 := Lib.hid (show w.heap.size ≤ g3 by have := HF2.out.size; omega)
  have HBB : Hid (Blk w3 g3 3 ((preB ⟨s, h, l⟩ 0).map i64v).toArray) := by
    rw [HP0.out, List.map_replicate]
    have := HB.out
    rw [made_eq] at this
    exact Lib.hid this
  clear HB hmk z1_0 z1_1 z1_2 z2_0 z2_1 z2_2 hlt1 hlt2 hg3 hf HZ1 HZ2 kw HA1 HA2
  go_loopw [6] (fun i wr => ∃ j : Nat, j ≤ m ∧ i = .int .i64 (j : Int) ∧ Blk wr g3 3 ((preB ⟨s, h, l⟩ j).map i64v).toArray ∧ Fr (fun i => i = g3) w3 wr) (fun i _ => m + 1 - (RowKit.intOf i).toNat)
  case atStart => exact ⟨0, Nat.zero_le _, rfl, HBB.out, Fr.refl _ _⟩
  case round =>
    obtain ⟨j, hj, rfl, hb, hF⟩ := hrel
    have B := Lib.hid hb
    have G := Lib.hid hF
    have A1 := Lib.hid (HY1.out.fr hF N13.out)
    have A2 := Lib.hid (HY2.out.fr hF N23.out)
    obtain ⟨z0, z1, z2⟩ := A1.out.c3
    clear hb hF
    by_cases hjm : j < m
    · have hjn : j < n := by omega
      have k1 := fun w => kb w (j : Int) (by omega) (by omega)
      have HA := Lib.hid (HPA.out j j hjn)
      have HS := Lib.hid (HPS.out j hjn)
      generalize bitA ⟨s, h, l⟩ (j : Int) = x at *
      clear kb
      go_wp2_with (go_at_call 92; refine (k1 _).mono ?_; rintro e w5 ⟨rfl, hf5⟩; have B5 := Lib.hid (B.out.fr hf5 id); have y := B5.out.cell j; rw [List.getElem?_toArray, List.getElem?_map, HA.out, if_neg (Nat.lt_irrefl j)] at y; replace y : w5.cell? ⟨g3, j, none⟩ = some (.int .i64 0) := y; have fz := B5.out.frozen j)
      go_roundw
      case rel =>
        have HB : Blk (w5.setCell ⟨g3, j, none⟩ (.int .i64 (x : Int))) g3 3 ((preB ⟨s, h, l⟩ (j + 1)).map i64v).toArray := by
          have := B5.out.set_ j (i64v x)
          rw [List.setIfInBounds_toArray, ← List.map_set, HS.out] at this
          exact this
        exact ⟨j + 1, by omega, by go_num, HB, (G.out.trans (hf5.mono fun _ _ h => h.elim)).setCell (.inl rfl) _⟩
      case measure => simp [RowKit.intOf]; omega
    · obtain rfl : j = m := by omega
      have BB : Hid (Blk wr g3 3 ((bitsA b).map i64v).toArray) := by rw [← HPC.out]; exact B
      have kc := fun W (hf : Fr N0 wr W) => HC.out W g3 n HCW.out.symm (BB.out.fr hf id)
      rw [HCS.out] at kc
      have hs4 := fun W (hf : Fr N0 wr W) => A2.out.fr hf id
      clear kb
      have HFR := Lib.hid (HF2.out.trans HF3.out)
      by_cases hjn : j < n
      all_goals
        go_wp2_with (first
          | (go_at_call 107; refine (kc _ (Fr.refl _ _)).mono ?_; rintro e w6 ⟨rfl, hf6⟩; have F6 := Lib.hid hf6)
          | (refine wpList_store_row rfl 30 _ _ rfl g2 _ rfl rfl _ _ (hs4 _ F6.out) rfl rfl (by simp [Value.oneCell']) ?_))
        refine ret_cell rfl rfl ((hs4 _ F6.out).row _) Tryz.underlying30 rfl ⟨rfl, Fr.setRow ((HFR.out.step G.out fun i hi => .inr (hi ▸ HG3.out)).trans F6.out) (.inr HG2.out) _⟩
end
end Go.Proofs.YtnklbeigikcfkaaGreatDoor
