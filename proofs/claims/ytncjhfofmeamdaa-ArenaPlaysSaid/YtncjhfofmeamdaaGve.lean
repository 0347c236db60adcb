/- Give. -/
import Derived.Test.YtncjhfofmeamdaaRel
import Derived.Test.YtncjhfofmeamdaaGp
import Derived.Test.YtncjhfofmeamdaaBt
import Derived.Test.YtncjhfofmeamdaaTke
import Derived.BigRegion
import Derived.Test.YtncjhfofmeamdaaSum
namespace Go.Proofs.Ytncjhfofmeamdaa
open Go.RowKit

section
variable {w : World} {b m fb n : Nat} {A : Nat → Option Addr} {c : Nat → Nat} {f : Nat → List Nat} {T : List (Nat × Nat)}
set_option maxHeartbeats 800000 in
theorem give_none (h : Ar w b m fb n A c f T) (a : Int) (h1 : -9223372036854775808 ≤ a) (h2 : a ≤ 9223372036854775807) (hno : ∀ p, p ∈ T → (p.1 : Int) ≠ a) :
    Calls Try.prog 13 #[.pointer (some ⟨b, 0, none⟩), .int .i64 a] w fun e w' => e = .returned (.int .i64 91) ∧ w = w' := by
  have b1 := h.cmap
  have hno' := absent hno
  have hm := h.map
  clear hno h
  go_enter Try.func13, Try.ntmps13
  go_wp2_with (at_lookup; refine wpList_look_none _ rfl _ _ 48 true rfl 3 3 keyed3 Try.underlying48 kfI kfN m _ hm _ (Try.zeroValue3 _) rfl a rfl _ (key3 a h1 h2) hno' ?_)
  go_ret
  exact ⟨rfl, rfl⟩
/-- What a giving back leaves. -/
def GiveE (w : World) (b m fb n : Nat) (A : Nat → Option Addr) (f : Nat → List Nat) (k0 : Nat) (T : List (Nat × Nat)) (e : Ending) (w' : World) : Prop :=
  e = .returned (.int .i64 0) ∧ ∃ f', ArE w b m fb n A f' T w' ∧ FreeIs n T f' ∧ sumF f' (n + 1) = sumF f (n + 1) + 2 ^ k0
set_option maxRecDepth 100000 in
set_option maxHeartbeats 3200000 in
theorem give_ok (h : Ar w b m fb n A c f T) (hn : n ≤ 16) (hf : FreeIs n T f) (hT : TOk n T) {a0 k0 : Nat} (hmem : (a0, k0) ∈ T) :
    Calls Try.prog 13 #[.pointer (some ⟨b, 0, none⟩), .int .i64 (a0 : Int)] w (GiveE w b m fb n A f k0 (drop T a0)) := by
  have b1 := h.cmap
  have H := Lib.hid h
  have hm := h.map
  have hlb := h.lt
  have hpn : 2 ^ n ≤ 65536 := Nat.le_trans (Nat.pow_le_pow_right (by omega) hn) (Nat.le_refl (2 ^ 16))
  obtain ⟨i, hi⟩ := present hmem
  have HD := Lib.hid (mkT_drop hT.keys hi)
  have HG0 := Lib.hid (GInv.start hf hT hmem (drop_mem hT.keys hmem))
  clear h hf hT hmem
  go_enter Try.func13, Try.ntmps13
  go_wp2_with (first | (at_lookup; refine wpList_look_some _ rfl _ _ 48 true rfl 3 3 keyed3 Try.underlying48 kfI kfN m _ hm rfl (a0 : Int) rfl i k0 hi ?_; unfold kfN) | (at_delete; refine wpList_drop _ rfl _ _ 48 3 rfl 3 keyed3 Try.underlying48 kfI kfN m _ hm rfl (a0 : Int) rfl i k0 hi ?_))
  intro w1 hm1 fm1 s1
  have HY := Lib.hid (show ArE w b m fb n A f (drop T a0) w1 from ⟨A, c, H.out.remap fm1 (HD.out ▸ hm1), fm1.mono fun j _ hj => .inr (.inl hj), fun j hj => .inl hj⟩)
  clear hm1 fm1 s1 hi hm b1 hlb
  go_wp2_with fail
  go_loopw [1, 5] (fun va vk wr => ∃ (a k : Nat) (cur : Nat → List Nat), va = .int .i64 (a : Int) ∧ vk = .int .i64 (k : Int) ∧ ArE w b m fb n A cur (drop T a0) wr ∧ GInv n T (drop T a0) cur a k ∧ sumF cur (n + 1) + 2 ^ k = sumF f (n + 1) + 2 ^ k0) (fun _ vk _ => 20 - (intOf vk).toNat)
  case atStart => exact ⟨a0, k0, f, rfl, rfl, HY.out, HG0.out, rfl⟩
  case round =>
    obtain ⟨a, k, cur, rfl, rfl, ⟨A1, c1, h1, f1, n1⟩, hI, hS⟩ := hrel
    have HS := Lib.hid hS
    clear hS
    clear HY HG0
    have b0 := h1.cord
    have hlen : (cur k).length ≤ 65536 := by
      have := sorted_len (hI.cur_ k hI.kn).1 (lo := 0) (N := 2 ^ n) (Nat.zero_le _) fun x hx => ⟨Nat.zero_le _, by
        have h2 := (((hI.cur_ k hI.kn).2 x).1 hx).1.2.2.1
        have h3 := p2 k
        omega⟩
      omega
    have hkn0 := hI.kn
    by_cases hkn : k < n
    · have hkI : (k : Int) < (n : Int) := by omega
      have hkI2 : (k : Int) < (n : Int) + 1 := by omega
      have hk64 : (k : Int) < 64 := by omega
      have b2 := h1.cfree
      have r0 := h1.crow hkn0
      have z0 := h1.frow k
      have hlb := h1.lt
      have hlf := h1.ltf
      have ha : a ≤ 65536 := Nat.le_trans (Nat.le_add_right _ _) (Nat.le_trans hI.an hpn)
      have hpk : 2 ^ k ≤ 65536 := Nat.le_trans (Nat.pow_le_pow_right (by omega) (show k ≤ 16 by omega)) (Nat.le_refl (2 ^ 16))
      have e1 : ((2 ^ k : Nat) : Int) = (2 : Int) ^ k := Int.natCast_pow 2 k
      have hp1 : (0 : Int) ≤ (2 : Int) ^ k := e1 ▸ Int.natCast_nonneg _
      have hp2 : (2 : Int) ^ k ≤ 65536 := by omega
      have HX := Lib.hid (i64_bud hI.dy (by omega) ha)
      have HP := Lib.hid (i64_par hI.dy (by omega) ha)
      have HB := Lib.hid (fun (j : Nat) => bs_any (w := wr.drewN j) ((h1.row k hkn0).fr0 ((Fr.refl _ wr).drewN j)) (hI.cur_ k hkn0).1 (by omega) (bud a k))
      clear e1 hpk
      by_cases hb : bud a k ∈ cur k
      · have HC := Lib.hid (erase_sorted (hI.cur_ k hkn0).1 hb)
        have hcb : (cur k).contains (bud a k) = true := by simpa using hb
        rw [hcb] at HB
        obtain ⟨i2, hi2⟩ : ∃ i2, i2 = (cur k).countP fun y => decide (y < bud a k) := ⟨_, rfl⟩
        rw [← hi2] at HB HC
        have hil := HC.out.1
        have HI2 := Lib.hid (hI.step hkn hb)
        have HSM := Lib.hid ((give_sum1 (n := n) hkn0 (l := (cur k).filter fun y => !decide (y = bud a k)) (by rw [← HC.out.2, List.length_eraseIdx_of_lt hil]; omega)).trans HS.out)
        have HA1 := Lib.hid h1
        have HF1 := Lib.hid f1
        have HN1 := Lib.hid n1
        obtain ⟨g, off, hA⟩ := (h1.row k hkn0).some_ (by omega)
        have HA := Lib.hid hA
        have hrow := h1.row k hkn0
        rw [hA] at HB r0 hrow
        have HROW := Lib.hid hrow
        clear hI h1 f1 n1 hb hcb hi2 hA hrow
        go_wp2_with fail
        go_quiet ((go_at_call 28; rw [HX.out]; exact Calls.quiet_of (HB.out _)))
        go_wp2_with fail
        obtain ⟨W2, hW⟩ : ∃ W2, W2 = wr.drewN nq := ⟨_, rfl⟩
        have HFQ : Hid (Fr (fun _ => False) wr W2) := Lib.hid (hW ▸ (Fr.refl _ wr).drewN nq)
        rw [← hW]
        clear hW b2 r0 z0 hlb hlf b0 HB
        have HA2 := Lib.hid (HA1.out.fr0 HFQ.out)
        have b2 := HA2.out.cfree
        have r0 := HA2.out.crow hkn0
        have z0 := HA2.out.frow k
        have hlf := HA2.out.ltf
        have hlb := HA2.out.lt
        rw [HA.out] at r0
        have HROW2 := Lib.hid (HROW.out.fr0 HFQ.out)
        have hfg : fb ≠ g := fun e => HA2.out.af hkn0 HA.out e.symm
        have hbg : b ≠ g := fun e => HA2.out.ab hkn0 HA.out e.symm
        have HWR := Lib.hid (show IntKind.i64.wrap ((i2 : Int) + 1) = (i2 : Int) + 1 from by rw [IntKind.wrap_i64]; omega)
        go_region_with (go_at_call 29; rw [HWR.out]; refine (del_any (c := c1 k) (l := cur k) (by exact HROW2.out.fr0 (by repeat first | exact Fr.refl _ _ | refine Fr.drewN ?_ _ | refine Fr.drew ?_)) hil).mono ?_; rintro e w5 ⟨rfl, hr5, hf5⟩; have hF := Fr.trans (show Fr (fun j => j = g) W2 _ by repeat first | exact Fr.refl _ _ | refine Fr.drewN ?_ _ | refine Fr.drew ?_) hf5; have y0 := (hF.cell (p := ⟨b, 2, none⟩) hlb hbg).trans b2; have y1 := (hF.cell (p := ⟨fb, k, none⟩) hlf hfg).trans r0; have y2 := (hF.frozen (p := ⟨fb, k, none⟩) hlf hfg).trans z0; have HF := Lib.hid hF; have HR5 := Lib.hid hr5; clear hF hr5 hf5)
        all_goals
          go_wp2_with fail
          have hF2 : Fr (fun i => ∃ o, A1 k = some ⟨i, o, none⟩) W2 w5 := HF.out.mono fun i _ e => ⟨off, by subst e; exact HA.out⟩
          have hP := HA2.out.put hkn0 hF2 HR5.out (fun g' o' e => .inl ⟨off, by rw [HA.out]; rw [Option.some.injEq, Addr.mk.injEq] at e ⊢; exact ⟨e.1, rfl, rfl⟩⟩)
          rw [List.length_eraseIdx_of_lt hil, HC.out.2] at hP
          have HPP := Lib.hid hP
          have HFE := Lib.hid (((HF1.out.trans (HFQ.out.mono fun _ _ h => h.elim)).step hF2 fun i ⟨o, e⟩ => HN1.out i (.inr (.inr (.inr ⟨k, o, hkn0, e⟩)))).setCell (p := ⟨fb, k, none⟩) (.inl (.inr (.inr (.inl rfl)))) (.slice (some ⟨g, off, none⟩) ((cur k).length - 1) (c1 k)))
          have HNE := Lib.hid (af_upd (b := b) (m := m) (fb := fb) (A := A1) (A0 := A) (S := fun i => w.heap.size ≤ i) (g' := g) (o' := off) hkn0 HN1.out (.inl ⟨off, HA.out⟩))
          clear hP hF2
          go_roundw
          case rel => exact ⟨par a k, k + 1, _, by rw [HP.out], by first | rfl | go_num, ⟨_, _, HPP.out, HFE.out, HNE.out⟩, HI2.out, HSM.out⟩
          case measure => simp [intOf]; omega
      · have hcb : (cur k).contains (bud a k) = false := by simpa using hb
        rw [hcb] at HB
        have HREL := Lib.hid (fun (W : World) (hW : Fr (fun _ => False) wr W) => rel_any (h1.fr0 hW) (k := k) hI.kn (hI.cur_ k hI.kn).1 (by omega) a)
        have HFR := Lib.hid (hI.stop (.inr hb) (insL_sorted (hI.cur_ k hI.kn).1 (x := a) fun h => (((hI.cur_ k hI.kn).2 a).1 h).2 (In.refl a k)) (fun x => insL_mem (cur k) a x))
        have HSM := Lib.hid (show sumF (upd cur k (insL (cur k) a)) (_ + 1) = sumF f (_ + 1) + 2 ^ k0 from (give_sum2 hI.kn (insL_len (cur k) a)).trans HS.out)
        have HF1 := Lib.hid f1
        have HN1 := Lib.hid n1
        clear hI f1 n1 h1 hb hcb
        go_wp2_with fail
        go_quiet ((go_at_call 28; rw [HX.out]; exact Calls.quiet_of (HB.out _)))
        go_wp2_with fail
        refine (HREL.out _ (by repeat first | exact Fr.refl _ _ | refine Fr.drewN ?_ _ | refine Fr.drew ?_)).mono ?_
        rintro e w3 ⟨rfl, hR⟩
        go_wp2_with fail
        go_ret
        exact ⟨rfl, _, ArE.trans (HF1.out.trans (by repeat first | exact Fr.refl _ _ | refine Fr.drewN ?_ _ | refine Fr.drew ?_)) HN1.out hR, HFR.out, HSM.out⟩
    · obtain rfl : k = n := by omega
      have HREL := Lib.hid (fun (W : World) (hW : Fr (fun _ => False) wr W) => rel_any (h1.fr0 hW) (k := k) hI.kn (hI.cur_ k hI.kn).1 (by omega) a)
      have HFR := Lib.hid (hI.stop (.inl rfl) (insL_sorted (hI.cur_ k hI.kn).1 (x := a) fun h => (((hI.cur_ k hI.kn).2 a).1 h).2 (In.refl a k)) (fun x => insL_mem (cur k) a x))
      have HSM := Lib.hid (show sumF (upd cur k (insL (cur k) a)) (_ + 1) = sumF f (_ + 1) + 2 ^ k0 from (give_sum2 hI.kn (insL_len (cur k) a)).trans HS.out)
      have HF1 := Lib.hid f1
      have HN1 := Lib.hid n1
      clear hI f1 n1 h1
      go_wp2_with fail
      refine (HREL.out _ (by repeat first | exact Fr.refl _ _ | refine Fr.drewN ?_ _ | refine Fr.drew ?_)).mono ?_
      rintro e w3 ⟨rfl, hR⟩
      go_wp2_with fail
      go_ret
      exact ⟨rfl, _, ArE.trans (HF1.out.trans (by repeat first | exact Fr.refl _ _ | refine Fr.drewN ?_ _ | refine Fr.drew ?_)) HN1.out hR, HFR.out, HSM.out⟩
end
end Go.Proofs.Ytncjhfofmeamdaa
