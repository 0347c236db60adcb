/- ArenaApart answers true. -/
import Derived.Test.YtncjhfofmeamdaaSrd
namespace Go.Proofs.Ytncjhfofmeamdaa
open Go.RowKit

theorem power_q (w : World) (n : Nat) (hn : n ≤ 16) : Calls Try.prog 27 #[.int .i64 (n : Int)] w fun e w' => e = .returned (.int .i64 ((2 ^ n : Nat) : Int)) ∧ w' = w :=
  (power_any w n hn).mono fun _ _ ⟨h1, h2⟩ => ⟨h1, h2.symm⟩
theorem powI (o : Nat) : ((2 ^ o : Nat) : Int) = (2 : Int) ^ o := by simp

set_option maxRecDepth 100000 in
set_option maxHeartbeats 3200000 in
theorem apart_any (w : World) (order : Int) (ho1 : -9223372036854775808 ≤ order) (ho2 : order ≤ 9223372036854775807)
    (A : Option Addr) (len cap : Nat) (hrd : Rd Try.prog w 22 [.slice A len cap]) (_hs : len * Try.prog.bytesOf 32 ≤ 140737488351232) :
    Calls Try.prog 4 #[.int .i64 order, .slice A len cap] w fun e w' => e = .returned (.bool true) ∧ Below w.heap.size w w' := by
  obtain ⟨HST0, hlen⟩ := steps_in hrd
  clear hrd
  have HST := Lib.hid HST0
  clear HST0
  go_enter Try.func4, Try.ntmps4
  go_wp2_with fail
  refine (awake_any _).mono ?_
  rintro e w1 ⟨rfl, hB1⟩
  have B1 := Lib.hid hB1
  have HS1 := Lib.hid (HST.out.below hB1)
  clear hB1
  go_wp2_with fail
  refine (pick_any w1 order 9 ho1 ho2 (by omega) (by omega)).mono ?_
  rintro e w2 ⟨rfl, rfl⟩
  obtain ⟨n, hn, hpk⟩ := pk_nat order 9 (by omega)
  rw [show (9 : Int) = ((9 : Nat) : Int) from rfl, hpk]
  go_wp2_with fail
  refine (made_ok w1 n (by omega) A len cap HS1.out hlen).mono ?_
  rintro e w2 ⟨b, T, rfl, _, hL, hF⟩
  have L2 := Lib.hid (hL.mono (S' := fun i => w.heap.size ≤ i) fun i h => Nat.le_trans B1.out.size h)
  have B2 := Lib.hid (below_fr B1.out hF B1.out.size fun _ h => h.elim)
  clear hL hF hpk
  go_wp2_with fail
  refine (L2.out.taken).mono ?_
  rintro e w3 ⟨g3, c3, l3, rfl, hl, hr, hg3, f3⟩
  have L3 := Lib.hid (L2.out.fr0 f3)
  have B3 := Lib.hid (below_fr B2.out f3 B2.out.size fun _ h => h.elim)
  have R3 := Lib.hid hr
  rw [srt_fst] at hl
  have HT16 := Lib.hid (show l3.length ≤ 65536 by rw [hl, ← srt_fst]; exact L3.out.len16)
  obtain ⟨U, hU⟩ : ∃ U, U = srt T := ⟨_, rfl⟩
  have HUP := Lib.hid (show U.Perm T by rw [hU]; exact srt_perm T)
  have HUD := Lib.hid (show U.Pairwise fun p q => p.1 + 2 ^ p.2 ≤ q.1 by rw [hU]; exact srt_dis L3.out.2.1)
  rw [← hU] at hl
  have HL3 := Lib.hid hl
  have HUL := Lib.hid (show l3.length = U.length by rw [hl, List.length_map])
  have HUS := Lib.hid (show sizes U = sizes T from sizes_perm HUP.out)
  have HZ := Lib.hid (L3.out.sizes_le)
  have HPn := Lib.hid (pow16 L3.out.1)
  have HN16 := L3.out.1
  clear hr f3 hl hU hg3 B2 L2
  go_wp2_with fail
  go_loopw [8, 9, 10] (fun e c i wr => ∃ j : Nat, j ≤ U.length ∧ e = .int .i64 (endAt U j : Int) ∧ c = .int .i64 (sizes (U.take j) : Int) ∧ i = .int .i64 (j : Int) ∧ Fr (fun _ => False) w3 wr) (fun _ _ i _ => U.length + 1 - (intOf i).toNat)
  case atStart => exact ⟨0, Nat.zero_le _, rfl, rfl, rfl, Fr.refl _ _⟩
  case round =>
    obtain ⟨j, hj, rfl, rfl, rfl, hF⟩ := hrel
    have L4 := Lib.hid (L3.out.fr0 hF)
    have R4 := Lib.hid (R3.out.fr0 hF)
    have F4 := Lib.hid hF
    clear hF
    by_cases hjl : j < U.length
    · obtain ⟨x, o, hp⟩ : ∃ x o, U[j]? = some (x, o) := ⟨_, _, List.getElem?_eq_getElem hjl⟩
      have hm := HUP.out.mem_iff.1 (List.mem_of_getElem? hp)
      have hz := R4.out.cell (j := j) (x := x) (by rw [HL3.out, List.getElem?_map, hp]; rfl)
      rw [Nat.zero_add] at hz
      have hjI : (j : Int) < (l3.length : Int) := by rw [HUL.out]; omega
      obtain ⟨d1, d2, d3⟩ := L3.out.2.1.dy (x, o) hm
      have HO := Lib.hid (show ordAt T (x : Int) = (o : Int) from ordAt_some L3.out.2.1.keys (p := (x, o)) hm)
      have HES := Lib.hid (endAt_succ hp)
      have HSS := Lib.hid (sizes_take hp)
      have hE : decide (x < endAt U j) = false := by have := endAt_le HUD.out hp; simp at this; simp; omega
      have hD : (x : Int) % ((2 : Int) ^ o) = 0 := by rw [← powI]; exact_mod_cast Nat.mod_eq_zero_of_dvd d1
      have ho0 : decide ((o : Int) < 0) = false := by simp
      have hon : decide (n < o) = false := by simp at d2; simp; omega
      have hx16 : x + 2 ^ o ≤ 65536 := by have := HPn.out; simp at d3; omega
      have hs16 : sizes (U.take (j + 1)) ≤ 65536 := by
        have h1 : sizes (U.take (j + 1)) + sizes (U.drop (j + 1)) = sizes U := by
          unfold sizes
          rw [← List.sum_append, ← List.map_append, List.take_append_drop]
        have := HUS.out
        have := HZ.out
        have := HPn.out
        omega
      have HX16 := Lib.hid hx16
      have HS16 := Lib.hid hs16
      have HON := Lib.hid (show o ≤ 16 by simp at d2; omega)
      clear hp hm d1 d2 d3 hx16 hs16
      go_wp2_with fail
      refine (L4.out.order (x : Int) (by omega) (by have := HX16.out; have := p2 o; omega)).mono ?_
      rintro e w5 ⟨rfl, rfl⟩
      rw [HO.out]
      go_wp2_with fail
      go_quiet ((go_at_call 27; exact Calls.quiet_of_same (power_q _ _ HON.out)))
      go_wp2_with fail
      have L5 := Lib.hid (L4.out.fr0 ((Fr.refl _ wr).drewN nq))
      have F5 := Lib.hid (F4.out.drewN nq)
      replace hz : (wr.drewN nq).cell? ⟨g3, j, none⟩ = some (.int .i64 (x : Int)) := hz
      generalize wr.drewN nq = w5 at *
      have hw1 : IntKind.i64.wrap ((x : Int) + (2 : Int) ^ o) = (x : Int) + (2 : Int) ^ o := by
        have := HX16.out
        have := p2 o
        rw [← powI]
        exact IntWalk.i64_in _ ⟨by omega, by omega⟩
      go_quiet ((go_at_call 27; exact Calls.quiet_of_same (power_q _ _ HON.out)))
      clear hw1
      have hs1 : (sizes (U.take j) : Int) + (2 : Int) ^ o ≤ 65536 := by
        have := HS16.out
        have := HSS.out
        have := p2 o
        rw [← powI]
        omega
      have hs0 : (0 : Int) ≤ (2 : Int) ^ o := by
        rw [← powI]
        exact Int.natCast_nonneg _
      have hj16 : (j : Int) < 65536 := by
        have := HT16.out
        have := HUL.out
        omega
      go_wp2_with fail
      refine (power_any _ _ HON.out).mono ?_
      rintro e w6 ⟨rfl, rfl⟩
      go_wp2_with fail
      have hjl2 := Lib.hid hjl
      go_roundw
      case rel =>
        refine ⟨j + 1, hjl2.out, ?_, ?_, by go_num, F5.out.drewN _⟩
        · rw [HES.out]; simp
        · rw [HSS.out]; simp
      case measure => simp [intOf]; omega
    · obtain rfl : j = U.length := by omega
      have hjI : ¬ (U.length : Int) < (l3.length : Int) := by rw [HUL.out]; omega
      have HT := Lib.hid (show sizes (U.take U.length) = sizes T by rw [List.take_length, HUS.out])
      have HE := Lib.hid (show endAt U U.length ≤ 2 ^ n from endAt_top (fun p hp => (L3.out.2.1.dy p (HUP.out.mem_iff.1 hp)).2.2) _)
      go_wp2_with fail
      refine (power_any _ _ HN16).mono ?_
      rintro e w6 ⟨rfl, rfl⟩
      have hE : ((endAt U U.length : Nat) : Int) ≤ (2 : Int) ^ n := by rw [← powI]; have := HE.out; omega
      have hT : sizes U = sizes T := HUS.out
      go_wp2_with fail
      refine (L4.out.free).mono ?_
      rintro e w6 ⟨rfl, rfl⟩
      have hq : ((2 ^ n - sizes T : Nat) : Int) = wrap64 ((2 : Int) ^ n - (sizes T : Int)) := by
        have := HZ.out
        have := HPn.out
        have := p2 n
        rw [← powI]
        unfold wrap64
        omega
      go_wp2_with fail
      refine (power_any _ _ HN16).mono ?_
      rintro e w6 ⟨rfl, rfl⟩
      go_wp2_with fail
      go_ret
      exact ⟨rfl, below_fr B3.out F4.out B3.out.size fun _ h => h.elim⟩
end Go.Proofs.Ytncjhfofmeamdaa
