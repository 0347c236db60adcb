/- release. -/
import Derived.Test.YtncjhfofmeamdaaSl
import Derived.Deep.RegionHeld3
import Derived.IntWalk
import Derived.Deep.RegionWith
import Derived.Deep.DeepCutAuto
import Derived.Deep.CutBlock
namespace Go.Proofs.Ytncjhfofmeamdaa
open Go.RowKit

/-- x in its place. -/
def insL (l : List Nat) (x : Nat) : List Nat := l.take (l.countP fun y => decide (y < x)) ++ x :: l.drop (l.countP fun y => decide (y < x))
/-- An arena whose row k is l. -/
def ArE (w : World) (b m fb n : Nat) (A : Nat → Option Addr) (f : Nat → List Nat) (T : List (Nat × Nat)) (w' : World) : Prop :=
  ∃ A' c', Ar w' b m fb n A' c' f T ∧ Fr (Af b m fb n A) w w' ∧ ∀ i, Af b m fb n A' i → Af b m fb n A i ∨ w.heap.size ≤ i
def RelE (w : World) (b m fb n : Nat) (A : Nat → Option Addr) (f : Nat → List Nat) (T : List (Nat × Nat)) (e : Ending) (w' : World) : Prop := e = .returned (.tuple #[]) ∧ ArE w b m fb n A f T w'

set_option maxRecDepth 100000 in
set_option maxHeartbeats 3200000 in
theorem rel_any {w : World} {b m fb n : Nat} {A : Nat → Option Addr} {c : Nat → Nat} {f : Nat → List Nat} {T : List (Nat × Nat)} (h : Ar w b m fb n A c f T) {k : Nat} (hk : k ≤ n) (hs : (f k).Pairwise (· < ·)) (hl : (f k).length < 1000000) (x : Nat) :
    Calls Try.prog 30 #[.pointer (some ⟨b, 0, none⟩), .int .i64 (x : Int), .int .i64 (k : Int)] w (RelE w b m fb n A (upd f k (insL (f k) x)) T) := by
  have b2 := h.cfree
  have r0 := h.crow hk
  have z0 := h.frow k
  have hlf := h.ltf
  have hlb := h.lt
  have H := Lib.hid h
  obtain ⟨i, hi⟩ : ∃ i, i = (f k).countP fun y => decide (y < x) := ⟨_, rfl⟩
  have hil : i ≤ (f k).length := by rw [hi]; exact List.countP_le_length
  have HB := Lib.hid (bs_any (h.row k hk) hs hl x)
  rw [← hi] at HB
  have HI := Lib.hid hi
  have hki : (k : Int) < (n : Int) + 1 := by omega
  have hki2 : (k : Int) ≤ (n : Int) := by omega
  clear h hs hi
  go_enter Try.func30, Try.ntmps30
  go_wp2_with fail
  refine HB.out.mono ?_
  rintro e w1 ⟨rfl, q, hw1⟩
  have HF1 : Hid (Fr (fun i => False) w w1) := Lib.hid (hw1 ▸ (Fr.refl _ w).drewN q)
  have HA1 := Lib.hid (H.out.fr0 HF1.out)
  clear hw1 b2 r0 z0 hlf hlb
  have b2 := HA1.out.cfree
  have r0 := HA1.out.crow hk
  have z0 := HA1.out.frow k
  have hlf := HA1.out.ltf
  have hlb := HA1.out.lt
  have hnf : fb ≠ w1.heap.size := by omega
  have hnb : b ≠ w1.heap.size := by omega
  generalize (f k).contains x = rb at *
  go_wp2_with fail
  go_region_with (go_at_call 36; refine (insd_any (vb := w1.heap.size) (c := c k) (l := f k) (by exact (HA1.out.row k hk).fr0 (by repeat first | exact Fr.refl _ _ | refine Fr.alloc ?_ _ | refine Fr.drewN ?_ _ | refine Fr.drew ?_)) hl hil x (by exact Blk.new _ 3 #[.int .i64 (x : Int)]) (fun g o e h2 => by have h3 := HA1.out.row k hk; rw [e] at h3; have := h3.lt; omega)).mono ?_; rintro e w5 ⟨g5, o5, c5, rfl, hr5, hf5, hg5⟩; have hF := Fr.trans (show Fr (fun i => ∃ o, A k = some ⟨i, o, none⟩) w1 _ by repeat first | exact Fr.refl _ _ | refine Fr.alloc ?_ _ | refine Fr.drewN ?_ _ | refine Fr.drew ?_) hf5; have y0 := (hF.cell (p := ⟨b, 2, none⟩) hlb (fun ⟨o, e⟩ => HA1.out.ab hk e rfl)).trans b2; have y1 := (hF.cell (p := ⟨fb, k, none⟩) hlf (fun ⟨o, e⟩ => HA1.out.af hk e rfl)).trans r0; have y2 := (hF.frozen (p := ⟨fb, k, none⟩) hlf (fun ⟨o, e⟩ => HA1.out.af hk e rfl)).trans z0; have HF := Lib.hid hF; have HR5 := Lib.hid hr5; have HG5 := Lib.hid hg5; clear hF hr5 hf5 hg5)
  all_goals
    go_wp2_with fail
    go_end0
    have hg6 : (∃ o, A k = some ⟨g5, o, none⟩) ∨ w1.heap.size ≤ g5 := HG5.out.imp_right fun h => by simp at h; omega
    have hg7 : (∃ o, A k = some ⟨g5, o, none⟩) ∨ w.heap.size ≤ g5 := hg6.imp_right fun h => Nat.le_trans HF1.out.size h
    have hP := (HA1.out).put hk HF.out HR5.out (fun g o e => by rw [Option.some.injEq, Addr.mk.injEq] at e; rw [← e.1]; exact hg6)
    have hil2 : (insL (f k) x) = (f k).take i ++ x :: (f k).drop i := by unfold insL; rw [← HI.out]
    rw [hil2]
    rw [show ((f k).take i ++ x :: (f k).drop i).length = (f k).length + 1 by simp; omega] at hP
    exact ⟨rfl, _, _, hP, ((HF1.out.mono fun _ _ h => h.elim).step HF.out fun i ⟨o, e⟩ => .inl (.inr (.inr (.inr ⟨k, o, hk, e⟩)))).setCell (.inl (.inr (.inr (.inl rfl)))) _, af_upd (S := fun i => w.heap.size ≤ i) hk (fun i hi => .inl hi) hg7⟩
end Go.Proofs.Ytncjhfofmeamdaa
