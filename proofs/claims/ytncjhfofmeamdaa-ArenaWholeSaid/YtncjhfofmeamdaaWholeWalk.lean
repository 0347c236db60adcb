/- ArenaWhole answers true. -/
import Derived.Test.YtncjhfofmeamdaaTwo
import Derived.Test.YtncjhfofmeamdaaApartWalk
import Derived.Deep.CutBlock
namespace Go.Proofs.Ytncjhfofmeamdaa
open Go.RowKit

theorem great_none (n : Nat) : Great n [] (n : Int) :=
  ⟨by omega, by omega, fun j h1 h2 => by omega, fun _ => ⟨0, by
    rw [Int.toNat_natCast]
    exact ⟨Nat.le_refl _, Dy.zero _, by omega, nofun, .inl rfl⟩⟩⟩

set_option maxRecDepth 100000 in
set_option maxHeartbeats 3200000 in
theorem whole_any (w : World) (order : Int) (ho1 : -9223372036854775808 ≤ order) (ho2 : order ≤ 9223372036854775807)
    (A : Option Addr) (len cap : Nat) (hrd : Rd Try.prog w 22 [.slice A len cap]) (_hs : len * Try.prog.bytesOf 32 ≤ 140737488351232)
    (A2 : Option Addr) (len2 cap2 : Nat) (hrd2 : Rd Try.prog w 34 [.slice A2 len2 cap2]) (_hs2 : len2 * Try.prog.bytesOf 3 ≤ 140737488351232)
    (A3 : Option Addr) (len3 cap3 : Nat) (hrd3 : Rd Try.prog w 34 [.slice A3 len3 cap3]) (_hs3 : len3 * Try.prog.bytesOf 3 ≤ 140737488351232) :
    Calls Try.prog 5 #[.int .i64 order, .slice A len cap, .slice A2 len2 cap2, .slice A3 len3 cap3] w fun e w' => e = .returned (.bool true) ∧ Below w.heap.size w w' := by
  obtain ⟨HST0, hlen⟩ := steps_in hrd
  obtain ⟨HI20, hlen2⟩ := ints_in hrd2
  obtain ⟨HI30, hlen3⟩ := ints_in hrd3
  clear hrd hrd2 hrd3
  have HST := Lib.hid HST0
  have HI2 := Lib.hid HI20
  have HI3 := Lib.hid HI30
  clear HST0 HI20 HI30
  go_enter Try.func5, Try.ntmps5
  go_wp2_with fail
  refine (awake_any _).mono ?_
  rintro e w1 ⟨rfl, hB1⟩
  have B1 := Lib.hid hB1
  have HS1 := Lib.hid (HST.out.below hB1)
  clear hB1
  go_wp2_with fail
  refine (pick_any w1 order 9 ho1 ho2 (by omega) (by omega)).mono ?_
  rintro e w2 ⟨rfl, rfl⟩
  obtain ⟨n, hn, hpk⟩ := pk_nat order 9 (by omega)
  rw [show (9 : Int) = ((9 : Nat) : Int) from rfl, hpk]
  go_wp2_with fail
  refine (made_ok w1 n (by omega) A len cap HS1.out hlen).mono ?_
  rintro e w2 ⟨a, T, rfl, _, hL, hF⟩
  have L2 := Lib.hid (hL.mono (S' := fun i => w.heap.size ≤ i) fun i h => Nat.le_trans B1.out.size h)
  have B2 := Lib.hid (below_fr B1.out hF B1.out.size fun _ h => h.elim)
  clear hL hF hpk
  have HT256 := Lib.hid (show T.length ≤ 256 from Nat.le_trans L2.out.2.1.length_le (Nat.le_trans (p2le (show n ≤ 8 by omega)) (Nat.le_refl (2 ^ 8))))
  have HN16 := L2.out.1
  go_wp2_with fail
  refine (new_liv w2 n (by omega)).mono ?_
  rintro e w3 ⟨rfl, hL3, hF3⟩
  have W3 := Lib.hid (Two.mk' B2.out.size L2.out hF3 hL3)
  have B3 := Lib.hid (below_fr B2.out hF3 B2.out.size fun _ h => h.elim)
  generalize w2.heap.size + 2 = b at *
  clear hL3 hF3 L2 B2 B1 HS1
  go_wp2_with fail
  go_loopw [13] (fun i wr => ∃ (j : Nat) (T' : Tk), T'.length + j = T.length ∧ i = .int .i64 (j : Int) ∧ Two wr w.heap.size a b n T' [] ∧ Below w.heap.size w wr) (fun i _ => 700 - (intOf i).toNat)
  case atStart => exact ⟨0, T, rfl, rfl, W3.out, B3.out⟩
  case round =>
    obtain ⟨j, T', hj, rfl, hW, hB⟩ := hrel
    have W4 := Lib.hid hW
    have B4 := Lib.hid hB
    have HJ := Lib.hid hj
    have hj256 : (j : Int) ≤ 256 := by have := HT256.out; omega
    obtain ⟨Sa, hLa⟩ := hW.l
    have LA := Lib.hid hLa
    clear hW hB hj hLa W3 B3
    go_wp2_with fail
    refine (LA.out.taken).mono ?_
    rintro e w5 ⟨g5, c5, l5, rfl, hl5, hr5, _, f5⟩
    have W5 := Lib.hid (W4.out.fr0 f5)
    have LA5 := Lib.hid (LA.out.fr0 f5)
    have B5 := Lib.hid (below_fr B4.out f5 B4.out.size fun _ h => h.elim)
    have hl5l : l5.length = T'.length := by rw [hl5, sortL_len, List.length_map]
    by_cases h0 : T' = []
    · subst h0
      obtain rfl : l5 = [] := List.length_eq_zero_iff.1 hl5l
      clear hr5 f5 hl5 hl5l
      go_wp2_with fail
      refine (LA5.out.free).mono ?_
      rintro e w6 ⟨rfl, rfl⟩
      rw [show ((2 ^ n - sizes [] : Nat) : Int) = (2 : Int) ^ n by rw [← powI]; simp [sizes]]
      go_wp2_with fail
      refine (power_any _ _ HN16).mono ?_
      rintro e w6 ⟨rfl, rfl⟩
      rw [powI]
      go_wp2_with fail
      refine (LA5.out.greatest (great_none n)).mono ?_
      rintro e w6 ⟨rfl, rfl⟩
      clear hj256 HJ LA LA5 W4 B4
      go_wp2_with fail
      go_loopw [17] (fun i wr => ∃ (j : Nat) (T1 T2 : Tk), j ≤ 40 ∧ i = .int .i64 (j : Int) ∧ Sm T1 T2 ∧ Two wr w.heap.size a b n T1 T2 ∧ Below w.heap.size w wr) (fun i _ => 700 - (intOf i).toNat)
      case atStart => exact ⟨0, [], [], by omega, rfl, Sm.refl _, W5.out, B5.out⟩
      case round =>
        obtain ⟨j, Ta, Tb, hj, rfl, hs, hW, hB⟩ := hrel
        have W6 := Lib.hid hW
        have B6 := Lib.hid hB
        have HS6 := Lib.hid hs
        clear hs hW hB W5 B5
        by_cases h1 : j < len3
        · by_cases h2 : j < 40
          · obtain ⟨gm, om, rfl, hgm, hcm⟩ := HI3.out (by omega)
            obtain ⟨x, ⟨hx1, hx2⟩, y⟩ := hcm j h1
            have y0 := (B6.out.cell (p := ⟨gm, om + j, none⟩) hgm).trans y
            have h1I : (j : Int) < (len3 : Int) := by omega
            have h2I : (j : Int) < 40 := by omega
            clear hcm
            go_wp2_with fail
            refine (W6.out.take B6.out.size x).mono ?_
            rintro e w7 ⟨r, c, T1, rfl, hr1, hW7, f7⟩
            have W7 := Lib.hid hW7
            have R7 := Lib.hid hr1
            have B7 := Lib.hid (below_fr B6.out f7 B6.out.size fun _ h => h)
            have y1 := (B7.out.cell (p := ⟨gm, om + j, none⟩) hgm).trans y
            clear hW7 f7 hr1
            go_wp2_with fail
            refine (W7.out.take2 B7.out.size x).mono ?_
            rintro e w8 ⟨r', c', T2, rfl, hr2, hW8, f8⟩
            obtain ⟨rfl, rfl, hs⟩ := R7.out.eq HS6.out hr2
            have W8 := Lib.hid hW8
            have B8 := Lib.hid (below_fr B7.out f8 B7.out.size fun _ h => h)
            have HS8 := Lib.hid hs
            clear hW8 f8 hr2 hs
            go_wp2_with fail
            go_roundw
            case rel => exact ⟨j + 1, T1, T2, by omega, by go_num, HS8.out, W8.out, B8.out⟩
            case measure => simp [intOf]; omega
          · have h1I : (j : Int) < (len3 : Int) := by omega
            have h2I : ¬ (j : Int) < 40 := by omega
            go_wp2_with fail
            go_ret
            exact ⟨rfl, B6.out⟩
        · have h1I : ¬ (j : Int) < (len3 : Int) := by omega
          go_wp2_with fail
          go_ret
          exact ⟨rfl, B6.out⟩
    · have hpos : 0 < l5.length := by
        rw [hl5l]
        exact List.length_pos_iff.2 h0
      have hposI : (0 : Int) < (l5.length : Int) := by omega
      have HL5 := Lib.hid hl5
      have HL16 := Lib.hid (show l5.length ≤ 65536 by rw [hl5]; exact LA.out.len16)
      clear h0 hr5 f5 hl5 hl5l LA
      go_wp2_with fail
      refine (LA5.out.taken).mono ?_
      rintro e w6 ⟨g6, c6, l6, rfl, hl6, hr6, _, f6⟩
      obtain rfl : l5 = l6 := by rw [HL5.out, hl6]
      have W6 := Lib.hid (W5.out.fr0 f6)
      have LA6 := Lib.hid (LA5.out.fr0 f6)
      have B6 := Lib.hid (below_fr B5.out f6 B5.out.size fun _ h => h.elim)
      have R6 := Lib.hid hr6
      clear hl6 hr6 f6 W5 LA5 B5 B4 W4
      go_upto_if 54 with fail
      go_cut [15] (fun v wx => ∃ k : Nat, k < l5.length ∧ v = .int .i64 (k : Int) ∧ wx = w6)
      case first =>
        by_cases h1 : j < len2
        · obtain ⟨gm, om, rfl, hgm, hcm⟩ := HI2.out (by omega)
          obtain ⟨x, ⟨hx1, hx2⟩, y⟩ := hcm j h1
          have y0 := (B6.out.cell (p := ⟨gm, om + j, none⟩) hgm).trans y
          have h1I : (j : Int) < (len2 : Int) := by omega
          clear hcm
          go_wp2_with fail
          refine (pick_any _ x (l5.length : Int) hx1 hx2 (by omega) (by have := HL16.out; omega)).mono ?_
          rintro e w7 ⟨rfl, rfl⟩
          obtain ⟨k, hk, hpk⟩ := pk_nat x l5.length hpos
          rw [hpk]
          go_wp2_with fail
          go_meet
          exact ⟨k, hk, rfl, rfl⟩
        · have h1I : ¬ (j : Int) < (len2 : Int) := by omega
          go_wp2_with fail
          go_meet
          exact ⟨0, hpos, rfl, rfl⟩
      case rest =>
        obtain ⟨k, hk, rfl, rfl⟩ := hcut
        have hkI : (k : Int) < (l5.length : Int) := by omega
        obtain ⟨x, hx⟩ : ∃ x, l5[k]? = some x := ⟨_, List.getElem?_eq_getElem hk⟩
        have hz := R6.out.cell hx
        rw [Nat.zero_add] at hz
        have hm := List.mem_of_getElem? hx
        rw [HL5.out, sortL_mem] at hm
        obtain ⟨⟨y, o⟩, hp, rfl⟩ := List.mem_map.1 hm
        have HP := Lib.hid hp
        have hy16 := LA6.out.mem16 y (sortL_mem.2 hm)
        clear hx hm hp
        go_wp2_with fail
        refine (W6.out.give B6.out.size (y : Int) (by omega) (by omega)).mono ?_
        rintro e w7 ⟨c, T1, rfl, hg, hW7, f7⟩
        have hgd : c = 0 ∧ T1.length + 1 = T'.length := by
          rcases hg with ⟨h1, _⟩ | ⟨y', o', e, h1, rfl, rfl⟩
          · exact absurd rfl (h1 _ HP.out)
          · exact ⟨rfl, drop_len LA6.out.2.1.keys h1⟩
        obtain ⟨rfl, hlen7⟩ := hgd
        have HJ7 := Lib.hid (show T1.length + (j + 1) = T.length by have := HJ.out; omega)
        have W7 := Lib.hid hW7
        have B7 := Lib.hid (below_fr B6.out f7 B6.out.size fun _ h => h)
        have h600 : ¬ (600 : Int) < (j : Int) := by omega
        clear hg hW7 f7 hlen7
        go_wp2_with fail
        go_roundw
        case rel => exact ⟨j + 1, T1, HJ7.out, by go_num, W7.out, B7.out⟩
        case measure => simp [intOf]; omega
end Go.Proofs.Ytncjhfofmeamdaa
