/- ArenaHistory answers true. -/
import Derived.Test.YtncjhfofmeamdaaHp
import Derived.Test.YtncjhfofmeamdaaApartWalk
import Derived.Deep.CutBlock
namespace Go.Proofs.Ytncjhfofmeamdaa
open Go.RowKit

set_option maxRecDepth 100000 in
set_option maxHeartbeats 6400000 in
theorem hist_any (w : World) (order : Int) (ho1 : -9223372036854775808 ≤ order) (ho2 : order ≤ 9223372036854775807)
    (A : Option Addr) (len cap : Nat) (hrd : Rd Try.prog w 22 [.slice A len cap]) (_hs : len * Try.prog.bytesOf 32 ≤ 140737488351232)
    (A3 : Option Addr) (len3 cap3 : Nat) (hrd3 : Rd Try.prog w 22 [.slice A3 len3 cap3]) (_hs3 : len3 * Try.prog.bytesOf 32 ≤ 140737488351232) :
    Calls Try.prog 6 #[.int .i64 order, .slice A len cap, .slice A3 len3 cap3] w fun e w' => e = .returned (.bool true) ∧ Below w.heap.size w w' := by
  obtain ⟨HST0, hlen⟩ := steps_in hrd
  obtain ⟨HI30, hlen3⟩ := steps_in hrd3
  clear hrd hrd3
  have HST := Lib.hid HST0
  have HI3 := Lib.hid HI30
  clear HST0 HI30
  go_enter Try.func6, Try.ntmps6
  go_wp2_with fail
  refine (awake_any _).mono ?_
  rintro e w1 ⟨rfl, hB1⟩
  have B1 := Lib.hid hB1
  have HS1 := Lib.hid (HST.out.below hB1)
  clear hB1
  go_wp2_with fail
  refine (pick_any w1 order 7 ho1 ho2 (by omega) (by omega)).mono ?_
  rintro e w2 ⟨rfl, rfl⟩
  obtain ⟨n, hn, hpk⟩ := pk_nat order 7 (by omega)
  rw [show (7 : Int) = ((7 : Nat) : Int) from rfl, hpk]
  go_wp2_with fail
  refine (made_ok w1 n (by omega) A len cap HS1.out hlen).mono ?_
  rintro e w2 ⟨a, T, rfl, _, hL, hF⟩
  have L2 := Lib.hid (hL.mono (S' := fun i => w.heap.size ≤ i) fun i h => Nat.le_trans B1.out.size h)
  have B2 := Lib.hid (below_fr B1.out hF B1.out.size fun _ h => h.elim)
  clear hL hF hpk
  have HN16 := L2.out.1
  have HP2 := Lib.hid (show 2 ^ n ≤ 64 from Nat.le_trans (p2le (show n ≤ 6 by omega)) (Nat.le_refl (2 ^ 6)))
  go_wp2_with fail
  refine (new_liv w2 n (by omega)).mono ?_
  rintro e w3 ⟨rfl, hL3, hF3⟩
  have W3 := Lib.hid (Two.mk' B2.out.size L2.out hF3 hL3)
  have B3 := Lib.hid (below_fr B2.out hF3 B2.out.size fun _ h => h.elim)
  generalize w2.heap.size + 2 = b at *
  clear hL3 hF3 L2 B2 B1 HS1
  go_wp2_with fail
  obtain ⟨Sa, hLa⟩ := W3.out.l
  have LA3 := Lib.hid hLa
  clear hLa
  refine (LA3.out.taken).mono ?_
  rintro e w4 ⟨g, c4, l, rfl, hl4, hr4, hg, f4⟩
  have W4 := Lib.hid (W3.out.k f4 hg)
  have B4 := Lib.hid (below_fr B3.out f4 B3.out.size fun _ h => h.elim)
  have R4 := Lib.hid hr4
  have HKK := Lib.hid (show ∀ w' : World, w4.heap.size ≤ w'.heap.size → ∀ i, w'.heap.size ≤ i → w.heap.size ≤ i ∧ i ≠ g from fun w' h1 i h2 => by
    have := B4.out.size
    have := hr4.lt
    omega)
  rw [srt_fst] at hl4
  obtain ⟨L, hL⟩ : ∃ L, L = srt T := ⟨_, rfl⟩
  rw [← hL] at hl4
  have HTOK := Lib.hid (show TOk n L by rw [hL]; exact LA3.out.2.1.srt)
  have HPM := Lib.hid (show L.Perm T by rw [hL]; exact srt_perm T)
  have HLL := Lib.hid hl4
  have HLEN := Lib.hid (show l.length = L.length by rw [hl4, List.length_map])
  have HL64 := Lib.hid (show L.length ≤ 64 from Nat.le_trans HTOK.out.length_le HP2.out)
  have HKEYS := Lib.hid LA3.out.2.1.keys
  obtain ⟨K, hK⟩ : ∃ K : Nat → Prop, K = fun i => w.heap.size ≤ i ∧ i ≠ g := ⟨_, rfl⟩
  rw [← hK] at W4
  have HK := Lib.hid (show ∀ w' : World, w4.heap.size ≤ w'.heap.size → ∀ i, w'.heap.size ≤ i → K i from fun w' h1 i h2 => by rw [hK]; exact HKK.out w' h1 i h2)
  have HKB := Lib.hid (show ∀ i, K i → w.heap.size ≤ i from fun i h => by rw [hK] at h; exact h.1)
  have HKg := Lib.hid (show ¬ K g from fun h => by rw [hK] at h; exact h.2 rfl)
  have HRW := Lib.hid (show ∀ w' : World, Fr K w4 w' → Row w' (some ⟨g, 0, none⟩) c4 l from fun w' h => R4.out.fr h fun g' off e hk => by
    injection e with e
    injection e with e
    exact HKg.out (e ▸ hk))
  clear hr4 f4 hl4 hL W3 LA3 B3 hg HKK hK
  go_upto_block 0 with fail
  go_cut [12] (fun _ wx => ∃ U, Mid n L 0 0 0 U ∧ TwoK wx K a b n T U ∧ Fr K w4 wx)
  case first =>
    go_wp2_with fail
    go_loopw [12] (fun i wr => ∃ (j : Nat) (U : Tk), j ≤ 2 ^ n ∧ i = .int .i64 (j : Int) ∧ Cel U j ∧ TwoK wr K a b n T U ∧ Fr K w4 wr) (fun i _ => 700 - (intOf i).toNat)
    case atStart => exact ⟨0, [], Nat.zero_le _, rfl, fun p => by simp, W4.out, Fr.refl _ _⟩
    case round =>
      obtain ⟨j, U, hj, rfl, hc, hW, hF⟩ := hrel
      have W5 := Lib.hid hW
      have F5 := Lib.hid hF
      have HC := Lib.hid hc
      have HJ := Lib.hid hj
      have hj64 : (j : Int) ≤ 64 := by have := HP2.out; omega
      clear hW hF hc hj W4
      go_wp2_with fail
      refine (power_any _ _ HN16).mono ?_
      rintro e w6 ⟨rfl, rfl⟩
      rw [powI]
      by_cases h1 : j < 2 ^ n
      · have h1I : (j : Int) < (2 : Int) ^ n := by rw [← powI]; omega
        clear HJ
        have HJ := Lib.hid h1
        clear h1
        go_wp2_with fail
        refine (W5.out.take (HK.out _ F5.out.size) 0).mono ?_
        rintro e w6 ⟨r, c, U', rfl, hr, hW6, f6⟩
        obtain ⟨rfl, rfl, hc6⟩ := HC.out.take HJ.out hr
        have W6 := Lib.hid hW6
        have F6 := Lib.hid (F5.out.trans f6)
        have HC6 := Lib.hid hc6
        clear hW6 f6 hr hc6
        go_wp2_with fail
        go_roundw
        case rel => exact ⟨j + 1, U', HJ.out, by go_num, HC6.out, W6.out, F6.out⟩
        case measure => simp [intOf]; omega
      · have h1I : ¬ (j : Int) < (2 : Int) ^ n := by rw [← powI]; omega
        obtain rfl : j = 2 ^ n := by have := HJ.out; omega
        go_wp2_with fail
        go_meet
        exact ⟨U, Mid.start HC.out 0, W5.out, F5.out⟩
  case rest =>
    obtain ⟨U, hM, hW, hF⟩ := hcut
    have W5 := Lib.hid hW
    have F5 := Lib.hid hF
    have HM5 := Lib.hid hM
    clear hW hF hM W4
    go_upto_block 2 with fail
    go_cut [15] (fun _ wx => ∃ U, End3 n L 0 U ∧ TwoK wx K a b n T U ∧ Fr K w4 wx)
    case first =>
      go_wp2_with fail
      go_loopw [15] (fun i wr => ∃ (j : Nat) (U : Tk), j ≤ L.length ∧ i = .int .i64 (j : Int) ∧ (∀ x, Mid n L j x 0 U) ∧ TwoK wr K a b n T U ∧ Fr K w4 wr) (fun i _ => 700 - (intOf i).toNat)
      case atStart => exact ⟨0, U, Nat.zero_le _, rfl, fun x => (fun p => by rw [HM5.out p]; simp), W5.out, F5.out⟩
      case round =>
        obtain ⟨j, U, hj, rfl, hc, hW, hF⟩ := hrel
        have W6 := Lib.hid hW
        have F6 := Lib.hid hF
        have HC := Lib.hid hc
        have HJ := Lib.hid hj
        have hj64 : (j : Int) ≤ 64 := by have := HL64.out; omega
        have R6 := Lib.hid (HRW.out _ hF)
        clear hW hF hc hj W5 F5 HM5
        by_cases h1 : j < L.length
        · have h1I : (j : Int) < (l.length : Int) := by rw [HLEN.out]; omega
          obtain ⟨x, o, hp⟩ : ∃ x o, L[j]? = some (x, o) := ⟨_, _, List.getElem?_eq_getElem h1⟩
          have hm := HPM.out.mem_iff.1 (List.mem_of_getElem? hp)
          obtain ⟨d1, d2, d3⟩ := HTOK.out.dy (x, o) (List.mem_of_getElem? hp)
          have hz := R6.out.cell (j := j) (x := x) (by rw [HLL.out, List.getElem?_map, hp]; rfl)
          rw [Nat.zero_add] at hz
          have HO := Lib.hid (show ordAt T (x : Int) = (o : Int) from ordAt_some HKEYS.out (p := (x, o)) hm)
          have HP := Lib.hid hp
          have HX := Lib.hid (show x + 2 ^ o ≤ 64 by have := HP2.out; simp at d3; omega)
          have hx64 : (x : Int) ≤ 64 := by have := HX.out; have := p2 o; omega
          have ho16 : o ≤ 16 := by simp at d2; omega
          have hlb : g < w4.heap.size := R4.out.lt
          obtain ⟨Sb, hLb⟩ := W6.out.l
          have LB := Lib.hid hLb
          clear hm d1 d2 d3 hp hLb HJ
          have HJ := Lib.hid h1
          clear h1
          go_wp2_with fail
          refine (LB.out.order (x : Int) (by omega) (by omega)).mono ?_
          rintro e w7 ⟨rfl, rfl⟩
          rw [HO.out]
          go_upto_block 4 with fail
          go_cut [17] (fun _ wx => ∃ U, Mid n L j x (2 ^ o) U ∧ TwoK wx K a b n T U ∧ Fr K w4 wx)
          case first =>
            go_wp2_with fail
            go_loopw [17] (fun i wr => ∃ (q : Nat) (U : Tk), q ≤ 2 ^ o ∧ i = .int .i64 (q : Int) ∧ Mid n L j x q U ∧ TwoK wr K a b n T U ∧ Fr K w4 wr) (fun i _ => 700 - (intOf i).toNat)
            case atStart => exact ⟨0, U, Nat.zero_le _, rfl, HC.out x, W6.out, F6.out⟩
            case round =>
              obtain ⟨q, U, hq, rfl, hc, hW, hF⟩ := hrel
              have W7 := Lib.hid hW
              have F7 := Lib.hid hF
              have HC7 := Lib.hid hc
              have HQ := Lib.hid hq
              have hq64 : (q : Int) ≤ 64 := by have := HX.out; omega
              have R7 := Lib.hid (HRW.out _ hF)
              have hz7 := R7.out.cell (j := j) (x := x) (by rw [HLL.out, List.getElem?_map, HP.out]; rfl)
              rw [Nat.zero_add] at hz7
              clear hW hF hc hq hz
              go_wp2_with fail
              refine (power_any _ _ ho16).mono ?_
              rintro e w8 ⟨rfl, rfl⟩
              rw [powI]
              by_cases h1 : q < 2 ^ o
              · have h1I : (q : Int) < (2 : Int) ^ o := by rw [← powI]; omega
                clear HQ
                have HQ := Lib.hid h1
                clear h1
                go_wp2_with fail
                refine (W7.out.give (HK.out _ F7.out.size) ((x : Int) + (q : Int)) (by omega) (by omega)).mono ?_
                rintro e w8 ⟨c, U', rfl, hr, hW8, f8⟩
                obtain ⟨rfl, hc8⟩ := HC7.out.give HTOK.out HP.out HQ.out hr
                have W8 := Lib.hid hW8
                have F8 := Lib.hid (F7.out.trans f8)
                have HC8 := Lib.hid hc8
                clear hW8 f8 hr hc8
                go_wp2_with fail
                go_roundw
                case rel => exact ⟨q + 1, U', HQ.out, by go_num, HC8.out, W8.out, F8.out⟩
                case measure => simp [intOf]; omega
              · have h1I : ¬ (q : Int) < (2 : Int) ^ o := by rw [← powI]; omega
                obtain rfl : q = 2 ^ o := by have := HQ.out; omega
                go_wp2_with fail
                go_meet
                exact ⟨U, HC7.out, W7.out, F7.out⟩
          case rest =>
            obtain ⟨U, hc, hW, hF⟩ := hcut
            have W7 := Lib.hid hW
            have F7 := Lib.hid hF
            have HC7 := Lib.hid hc
            clear hW hF hc hz
            go_wp2_with fail
            refine (W7.out.take (HK.out _ F7.out.size) (o : Int)).mono ?_
            rintro e w8 ⟨r, c, U', rfl, hr, hW8, f8⟩
            have hc8 := fun y => HC7.out.take HTOK.out HP.out hr y
            obtain ⟨rfl, rfl, _⟩ := hc8 0
            have HC8 := Lib.hid (fun y => (hc8 y).2.2)
            have W8 := Lib.hid hW8
            have F8 := Lib.hid (F7.out.trans f8)
            have R8 := Lib.hid (HRW.out _ F8.out)
            have hz8 := R8.out.cell (j := j) (x := x) (by rw [HLL.out, List.getElem?_map, HP.out]; rfl)
            rw [Nat.zero_add] at hz8
            clear hW8 f8 hr hc8
            go_wp2_with fail
            go_roundw
            case rel => exact ⟨j + 1, U', HJ.out, by go_num, HC8.out, W8.out, F8.out⟩
            case measure => simp [intOf]; omega
        · have h1I : ¬ (j : Int) < (l.length : Int) := by rw [HLEN.out]; omega
          obtain rfl : j = L.length := by have := HJ.out; omega
          go_wp2_with fail
          go_meet
          exact ⟨U, (HC.out 0).end3, W6.out, F6.out⟩
    case rest =>
      obtain ⟨U, hM, hW, hF⟩ := hcut
      have W6 := Lib.hid hW
      have F6 := Lib.hid hF
      have HM6 := Lib.hid hM
      clear hW hF hM W5 F5 HM5
      go_upto_block 6 with fail
      go_cut [21] (fun _ wx => ∃ U, Sm L U ∧ TwoK wx K a b n T U ∧ Fr K w4 wx)
      case first =>
        go_wp2_with fail
        go_loopw [21] (fun i wr => ∃ (m : Nat) (U : Tk), m ≤ 2 ^ n ∧ i = .int .i64 (m : Int) ∧ End3 n L m U ∧ TwoK wr K a b n T U ∧ Fr K w4 wr) (fun i _ => 700 - (intOf i).toNat)
        case atStart => exact ⟨0, U, Nat.zero_le _, rfl, HM6.out, W6.out, F6.out⟩
        case round =>
          obtain ⟨m, U, hm, rfl, hc, hW, hF⟩ := hrel
          have W7 := Lib.hid hW
          have F7 := Lib.hid hF
          have HC := Lib.hid hc
          have HM := Lib.hid hm
          have hm64 : (m : Int) ≤ 64 := by have := HP2.out; omega
          obtain ⟨Sb, hLb⟩ := hW.l
          have LB7 := Lib.hid hLb
          clear hW hF hc hm HM6 W6 F6 hLb
          go_wp2_with fail
          refine (power_any _ _ HN16).mono ?_
          rintro e w8 ⟨rfl, rfl⟩
          rw [powI]
          by_cases h1 : m < 2 ^ n
          · have h1I : (m : Int) < (2 : Int) ^ n := by rw [← powI]; omega
            clear HM
            have HM := Lib.hid h1
            clear h1
            go_upto_block 8 with fail
            go_cut [22, 23] (fun h _ wx => h = .bool (heldB L L.length m) ∧ TwoK wx K a b n T U ∧ Fr K w4 wx)
            case first =>
              go_wp2_with fail
              go_loopw [22, 23] (fun h i wr => ∃ (j : Nat), j ≤ L.length ∧ h = .bool (heldB L j m) ∧ i = .int .i64 (j : Int) ∧ TwoK wr K a b n T U ∧ Fr K w4 wr) (fun _ i _ => 700 - (intOf i).toNat)
              case atStart => exact ⟨0, Nat.zero_le _, rfl, rfl, W7.out, F7.out⟩
              case round =>
                obtain ⟨j, hj, rfl, rfl, hW, hF⟩ := hrel
                have W8 := Lib.hid hW
                have F8 := Lib.hid hF
                have HJ := Lib.hid hj
                have hj64 : (j : Int) ≤ 64 := by have := HL64.out; omega
                have R8 := Lib.hid (HRW.out _ hF)
                obtain ⟨Sc, hLc⟩ := hW.l
                have LB := Lib.hid hLc
                clear hW hF hj W7 F7 hLc LB7
                by_cases h1 : j < L.length
                · have h1I : (j : Int) < (l.length : Int) := by rw [HLEN.out]; omega
                  obtain ⟨x, o, hp⟩ : ∃ x o, L[j]? = some (x, o) := ⟨_, _, List.getElem?_eq_getElem h1⟩
                  have hmm := HPM.out.mem_iff.1 (List.mem_of_getElem? hp)
                  obtain ⟨d1, d2, d3⟩ := HTOK.out.dy (x, o) (List.mem_of_getElem? hp)
                  have hz := R8.out.cell (j := j) (x := x) (by rw [HLL.out, List.getElem?_map, hp]; rfl)
                  rw [Nat.zero_add] at hz
                  have HO := Lib.hid (show ordAt T (x : Int) = (o : Int) from ordAt_some HKEYS.out (p := (x, o)) hmm)
                  have HX := Lib.hid (show x + 2 ^ o ≤ 64 by have := HP2.out; simp at d3; omega)
                  have hx64 : (x : Int) ≤ 64 := by have := HX.out; have := p2 o; omega
                  have ho16 : o ≤ 16 := by simp at d2; omega
                  have HB := Lib.hid (heldB_succ hp (c := m))
                  have HJ2 := Lib.hid h1
                  clear hmm d1 d2 d3 hp HJ h1
                  obtain ⟨hd, hhd⟩ : ∃ hd, hd = heldB L j m := ⟨_, rfl⟩
                  rw [← hhd] at HB ⊢
                  clear hhd
                  cases hd
                  · by_cases hx : x ≤ m
                    · have hxd : decide (x ≤ m) = true := by simpa using hx
                      have hw1 : IntKind.i64.wrap ((x : Int) + (2 : Int) ^ o) = (x : Int) + (2 : Int) ^ o := by
                        have := HX.out
                        have := p2 o
                        rw [← powI]
                        exact IntWalk.i64_in _ ⟨by omega, by omega⟩
                      have HBB := Lib.hid (show decide ((m : Int) < (x : Int) + (2 : Int) ^ o) = heldB L (j + 1) m by
                        rw [HB.out, ← powI, Bool.false_or]
                        apply decide_eq_decide.2
                        unfold Has
                        constructor
                        · intro h; exact ⟨hx, by show m < x + 2 ^ o; omega⟩
                        · rintro ⟨_, h⟩; have h : m < x + 2 ^ o := h; omega)
                      clear hx
                      go_wp2_with fail
                      go_quiet ((first | (go_at_call 17; exact Calls.quiet_of_same (left_same ((LB.out.fr0 (by repeat first | exact Fr.refl _ _ | refine Fr.drew ?_ | refine Fr.drewN ?_ _)).order _ (by omega) (by omega)))) | (go_at_call 27; rw [HO.out]; exact Calls.quiet_of_same (power_q _ _ ho16))))
                      clear hw1 hxd
                      go_wp2_with fail
                      go_roundw
                      case rel => exact ⟨j + 1, HJ2.out, by rw [← HBB.out], by go_num, W8.out.fr0 ((Fr.refl _ _).drewN _), F8.out.drewN _⟩
                      case measure => simp [intOf]; omega
                    · have hxd : decide (x ≤ m) = false := by simpa using hx
                      have HBB := Lib.hid (show false = heldB L (j + 1) m by
                        rw [HB.out, Bool.false_or]
                        symm
                        apply decide_eq_false
                        rintro ⟨h, _⟩
                        exact hx h)
                      clear hx
                      go_wp2_with fail
                      go_quiet (fail)
                      clear hxd
                      go_wp2_with fail
                      go_roundw
                      case rel => exact ⟨j + 1, HJ2.out, by rw [← HBB.out], by go_num, W8.out.fr0 ((Fr.refl _ _).drewN _), F8.out.drewN _⟩
                      case measure => simp [intOf]; omega
                  · go_wp2_with fail
                    go_quiet (fail)
                    go_wp2_with fail
                    go_roundw
                    case rel => exact ⟨j + 1, HJ2.out, by rw [HB.out]; rfl, by go_num, W8.out.fr0 ((Fr.refl _ _).drewN _), F8.out.drewN _⟩
                    case measure => simp [intOf]; omega
                · have h1I : ¬ (j : Int) < (l.length : Int) := by rw [HLEN.out]; omega
                  obtain rfl : j = L.length := by have := HJ.out; omega
                  go_wp2_with fail
                  go_meet
                  exact ⟨rfl, W8.out, F8.out⟩
            case rest =>
              obtain ⟨rfl, hW, hF⟩ := hcut
              have W8 := Lib.hid hW
              have F8 := Lib.hid hF
              clear hW hF W7 F7 LB7
              by_cases hh : heldB L L.length m = true
              · have HC8 := Lib.hid (HC.out.held (heldB_iff.1 hh))
                rw [hh]
                clear hh
                go_wp2_with fail
                go_roundw
                case rel => exact ⟨m + 1, U, HM.out, by go_num, HC8.out, W8.out, F8.out⟩
                case measure => simp [intOf]; omega
              · have HH := Lib.hid (show ¬ ∃ q, q ∈ L ∧ Has q m from fun h => hh (heldB_iff.2 h))
                rw [Bool.eq_false_iff.2 hh]
                clear hh
                go_wp2_with fail
                refine (W8.out.give (HK.out _ F8.out.size) (m : Int) (by omega) (by omega)).mono ?_
                rintro e w9 ⟨c, U', rfl, hr, hW9, f9⟩
                obtain ⟨rfl, hc9⟩ := HC.out.give HM.out HH.out hr
                have W9 := Lib.hid hW9
                have F9 := Lib.hid (F8.out.trans f9)
                have HC9 := Lib.hid hc9
                clear hW9 f9 hr hc9
                go_wp2_with fail
                go_roundw
                case rel => exact ⟨m + 1, U', HM.out, by go_num, HC9.out, W9.out, F9.out⟩
                case measure => simp [intOf]; omega
          · have h1I : ¬ (m : Int) < (2 : Int) ^ n := by rw [← powI]; omega
            obtain rfl : m = 2 ^ n := by have := HM.out; omega
            go_wp2_with fail
            go_meet
            exact ⟨U, HC.out.sm, W7.out, F7.out⟩
      case rest =>
        obtain ⟨U, hM, hW, hF⟩ := hcut
        have HS7 := Lib.hid (show Sm T U from fun p => (HPM.out.mem_iff (a := p)).symm.trans (hM p))
        have W7 := Lib.hid (hW.two HKB.out)
        have B7 := Lib.hid (below_fr B4.out hF B4.out.size HKB.out)
        clear hW hF hM W6 F6 HM6
        obtain ⟨Sc, hLc⟩ := W7.out.l
        have LA := Lib.hid hLc
        obtain ⟨Sd, hLd⟩ := W7.out.swap.l
        have LB := Lib.hid hLd
        clear hLc hLd
        go_wp2_with fail
        refine (LA.out.taken).mono ?_
        rintro e w8 ⟨g8, c8, l8, rfl, hl8, hr8, _, f8⟩
        have R8 := Lib.hid hr8
        have W8 := Lib.hid (W7.out.fr0 f8)
        have LA8 := Lib.hid (LA.out.fr0 f8)
        have LB8 := Lib.hid (LB.out.fr0 f8)
        have B8 := Lib.hid (below_fr B7.out f8 B7.out.size fun _ h => h.elim)
        have HL8 := Lib.hid hl8
        have H816 := Lib.hid (show l8.length ≤ 65536 by rw [hl8]; exact LA.out.len16)
        clear hl8 hr8 f8 LA LB W7
        go_wp2_with fail
        refine (LB8.out.taken).mono ?_
        rintro e w9 ⟨g9, c9, l9, rfl, hl9, hr9, _, f9⟩
        obtain rfl : l8 = l9 := by
          rw [HL8.out, hl9]
          exact sort_perm ((HS7.out.perm LA8.out.2.1 LB8.out.2.1).map _)
        have R9 := Lib.hid hr9
        have R89 := Lib.hid (R8.out.fr0 f9)
        have W9 := Lib.hid (W8.out.fr0 f9)
        have LA9 := Lib.hid (LA8.out.fr0 f9)
        have LB9 := Lib.hid (LB8.out.fr0 f9)
        have B9 := Lib.hid (below_fr B8.out f9 B8.out.size fun _ h => h.elim)
        clear hl9 hr9 f9 LA8 LB8 W8
        go_wp2_with fail
        refine (same_ints R89.out R9.out rfl rfl (by have := H816.out; omega) true (by simp)).mono ?_
        rintro e wa ⟨rfl, ka, rfl⟩
        have Wa := Lib.hid (W9.out.fr0 ((Fr.refl _ _).drewN ka))
        have LAa := Lib.hid (LA9.out.fr0 ((Fr.refl _ _).drewN ka))
        have LBa := Lib.hid (LB9.out.fr0 ((Fr.refl _ _).drewN ka))
        have Ba := Lib.hid (below_fr B9.out ((Fr.refl (fun _ => False) w9).drewN ka) B9.out.size fun _ h => h.elim)
        generalize w9.drewN ka = wa at *
        clear LA9 LB9 W9
        go_wp2_with fail
        refine (LAa.out.free).mono ?_
        rintro e wb ⟨rfl, rfl⟩
        go_wp2_with fail
        refine (LBa.out.free).mono ?_
        rintro e wb ⟨rfl, rfl⟩
        rw [show sizes U = sizes T from (sizes_perm (HS7.out.perm LAa.out.2.1 LBa.out.2.1)).symm]
        go_wp2_with fail
        obtain ⟨gr, hgr⟩ := LAa.out.great
        have HGR := Lib.hid hgr
        clear hgr
        refine (LAa.out.greatest HGR.out).mono ?_
        rintro e wb ⟨rfl, rfl⟩
        go_wp2_with fail
        refine (LBa.out.greatest (HS7.out.great HGR.out)).mono ?_
        rintro e wb ⟨rfl, rfl⟩
        go_wp2_with fail
        clear LAa LBa
        go_loopw [26] (fun i wr => ∃ (j : Nat) (T1 T2 : Tk), j ≤ 40 ∧ i = .int .i64 (j : Int) ∧ Sm T1 T2 ∧ Two wr w.heap.size a b n T1 T2 ∧ Below w.heap.size w wr) (fun i _ => 700 - (intOf i).toNat)
        case atStart => exact ⟨0, T, U, by omega, rfl, HS7.out, Wa.out, Ba.out⟩
        case round =>
          obtain ⟨j, Ta, Tb, hj, rfl, hs, hW, hB⟩ := hrel
          have W6 := Lib.hid hW
          have B6 := Lib.hid hB
          have HS6 := Lib.hid hs
          obtain ⟨Se, hLe⟩ := hW.l
          have LE := Lib.hid hLe
          clear hs hW hB Wa Ba HS7 hLe
          by_cases h1 : j < len3
          · by_cases h2 : j < 40
            · obtain ⟨gm, om, rfl, hgm, hcm⟩ := HI3.out (by omega)
              obtain ⟨gv, rw_, x, ⟨hx1, hx2⟩, c0, c1, c2⟩ := hcm j h1
              have y0 := (B6.out.cell (p := ⟨gm, om + j * 3, none⟩) hgm).trans c0
              have y1 := (B6.out.cell (p := ⟨gm, om + j * 3 + 1, none⟩) hgm).trans c1
              have y2 := (B6.out.cell (p := ⟨gm, om + j * 3 + 2, none⟩) hgm).trans c2
              have h1I : (j : Int) < (len3 : Int) := by omega
              have h2I : (j : Int) < 40 := by omega
              clear hcm
              cases gv
              · go_wp2_with fail
                refine (W6.out.take B6.out.size x).mono ?_
                rintro e w7 ⟨r, c, T1, rfl, hr1, hW7, f7⟩
                have W7 := Lib.hid hW7
                have R7 := Lib.hid hr1
                have B7 := Lib.hid (below_fr B6.out f7 B6.out.size fun _ h => h)
                have z2 := (B7.out.cell (p := ⟨gm, om + j * 3 + 2, none⟩) hgm).trans c2
                clear hW7 f7 hr1
                go_wp2_with fail
                refine (W7.out.take2 B7.out.size x).mono ?_
                rintro e w8 ⟨r', c', T2, rfl, hr2, hW8, f8⟩
                obtain ⟨rfl, rfl, hs⟩ := R7.out.eq HS6.out hr2
                have W8 := Lib.hid hW8
                have B8 := Lib.hid (below_fr B7.out f8 B7.out.size fun _ h => h)
                have HS8 := Lib.hid hs
                clear hW8 f8 hr2 hs
                go_wp2_with fail
                go_roundw
                case rel => exact ⟨j + 1, T1, T2, by omega, by go_num, HS8.out, W8.out, B8.out⟩
                case measure => simp [intOf]; omega
              · have HPB := Lib.hid (plc_bd rw_ x hx1 hx2 _ LE.out.mem16)
                have HBK := Lib.hid (show gm < wr.heap.size from Nat.lt_of_lt_of_le hgm B6.out.size)
                go_wp2_with fail
                go_region_held3 (fun w' => w'.cell? ⟨gm, om + j * 3, none⟩ = some (.bool true) ∧ w'.cell? ⟨gm, om + j * 3 + 1, none⟩ = some (.bool rw_) ∧ w'.cell? ⟨gm, om + j * 3 + 2, none⟩ = some (.int .i64 x)) (first | go_keep | exact ⟨z0, z1, z2⟩ | exact ⟨y0, y1, y2⟩) ((first
                  | (go_at_call 20; refine (LE.out.fr0 (by repeat first | exact Fr.refl _ _ | refine Fr.drew ?_ | refine Fr.drewN ?_ _)).taken.mono ?_; rintro e w7 ⟨g7, c7, l7, rfl, hl7, hr7, _, hf7⟩; subst hl7; have F7 := Lib.hid (Fr.trans (by repeat first | exact Fr.refl _ _ | refine Fr.drew ?_ | refine Fr.drewN ?_ _) hf7 : Fr (fun _ => False) wr w7); have z0 := (F7.out.cell (p := ⟨gm, om + j * 3, none⟩) HBK.out id).trans y0; have z1 := (F7.out.cell (p := ⟨gm, om + j * 3 + 1, none⟩) HBK.out id).trans y1; have z2 := (F7.out.cell (p := ⟨gm, om + j * 3 + 2, none⟩) HBK.out id).trans y2)
                  | (go_at_call 11; refine (place_any hr7 LE.out.len16 true rw_ x hx1 hx2).mono ?_; rintro e w8 ⟨rfl, hf8⟩; have hbk7 := Nat.lt_of_lt_of_le HBK.out F7.out.size; have z0 := (hf8.cell (p := ⟨gm, om + j * 3, none⟩) hbk7 id).trans z0; have z1 := (hf8.cell (p := ⟨gm, om + j * 3 + 1, none⟩) hbk7 id).trans z1; have z2 := (hf8.cell (p := ⟨gm, om + j * 3 + 2, none⟩) hbk7 id).trans z2; have F8 := Lib.hid (F7.out.trans hf8))))
                all_goals
                  have W8 := Lib.hid (W6.out.fr0 F8.out)
                  have B8 := Lib.hid (below_fr B6.out F8.out B6.out.size fun _ h => h.elim)
                  clear hr7 hf7 hf8 F7 F8
                  obtain ⟨at_, hat⟩ : ∃ at_, at_ = plc rw_ x (sortL (List.map (fun x => x.1) Ta)) := ⟨_, rfl⟩
                  rw [← hat] at HPB ⊢
                  clear hat
                  go_wp2_with fail
                  refine (W8.out.give B8.out.size at_ HPB.out.1 HPB.out.2).mono ?_
                  rintro e w9 ⟨c, T1, rfl, hr1, hW9, f9⟩
                  have W9 := Lib.hid hW9
                  have R9 := Lib.hid hr1
                  have B9 := Lib.hid (below_fr B8.out f9 B8.out.size fun _ h => h)
                  clear hW9 f9 hr1
                  go_wp2_with fail
                  refine (W9.out.give2 B9.out.size at_ HPB.out.1 HPB.out.2).mono ?_
                  rintro e wz ⟨c', T2, rfl, hr2, hWz, fz⟩
                  obtain ⟨rfl, hs⟩ := R9.out.eq HS6.out hr2
                  have Wz := Lib.hid hWz
                  have Bz := Lib.hid (below_fr B9.out fz B9.out.size fun _ h => h)
                  have HSz := Lib.hid hs
                  clear hWz fz hr2 hs
                  go_wp2_with fail
                  go_roundw
                  case rel => exact ⟨j + 1, T1, T2, by omega, by go_num, HSz.out, Wz.out, Bz.out⟩
                  case measure => simp [intOf]; omega
            · have h1I : (j : Int) < (len3 : Int) := by omega
              have h2I : ¬ (j : Int) < 40 := by omega
              go_wp2_with fail
              go_ret
              exact ⟨rfl, B6.out⟩
          · have h1I : ¬ (j : Int) < (len3 : Int) := by omega
            go_wp2_with fail
            go_ret
            exact ⟨rfl, B6.out⟩
end Go.Proofs.Ytncjhfofmeamdaa
