/- prefix.Halves. -/
import Derived.Test.YtejddfgmfdpnfaaDoorLe
import Derived.Laws.Bits64b
namespace Go.Proofs.YtejddfgmfdpnfaaDoor
open Go.RowKit
def halvesP (p : Px) : Px × Px × Int := if fullP p = true then (⟨⟨false, 0, 0⟩, 0⟩, ⟨⟨false, 0, 0⟩, 0⟩, 1) else (lowP p, highP p, 0)
theorem ret_cell3 {fn : Func} {p q u : Tmp} {ty : TypeId} {tmps cs ds : Array Value} {w : World} {g g' : Nat} {fs} {R : Ending → World → Prop} (hr : fn.results = #[.cell p ty, .cell q ty, .tmp u]) (hp : tmps.getD p undef = .pointer (some ⟨g, 0, none⟩)) (hq : tmps.getD q undef = .pointer (some ⟨g', 0, none⟩))
    (hb : Blk w g ty cs) (hc : Blk w g' ty ds) (hu : Tryd.prog.underlying ty = some (.struct fs)) (hi : (Tryd.prog.info? ty).map (·.size) = some cs.size) (hi' : (Tryd.prog.info? ty).map (·.size) = some ds.size)
    (hR : R (.returned (.tuple #[.agg cs, .agg ds, tmps.getD u undef])) w) : bodyPost Tryd.prog fn R .ret ⟨tmps, []⟩ w := by
  refine bodyPost_ret_by ?_ rfl hR
  have hp' : tmps[p]?.getD undef = .pointer (some ⟨g, 0, none⟩) := by simpa using hp
  have hq' : tmps[q]?.getD undef = .pointer (some ⟨g', 0, none⟩) := by simpa using hq
  simp [results, hr, Sem.run_bind, hp', hq', asAddr, Result.andThen, run_loadVar_row w g ty ty cs (0, 0) _ hb hu rfl hi, run_loadVar_row w g' ty ty ds (0, 0) _ hc hu rfl hi']
theorem or_bit {n k : Nat} (hn : n < 18446744073709551616) (hk : k ≤ 63) (hd : 2 ^ (k + 1) ∣ n) : bits .or .u64 (n : Int) (IntKind.u64.wrap (2 ^ k)) = ((n + 2 ^ k : Nat) : Int) := by
  have h1 : 2 ^ k < 18446744073709551616 := by rw [p64]; exact Nat.pow_lt_pow_right (by omega) (by omega)
  have e : ((2 : Int) ^ k) = ((2 ^ k : Nat) : Int) := by simp
  rw [e, IntWalk.u64_in _ (by omega), bits_or_u64_nat n (2 ^ k) hn h1]
  obtain ⟨q, rfl⟩ := hd
  congr 1
  have h2 : 2 ^ k < 2 ^ (k + 1) := Nat.pow_lt_pow_right (by omega) (by omega)
  rw [Nat.two_pow_add_eq_or_of_lt h2]
theorem Blk.set4 {w : World} {g : Nat} {t : TypeId} {a b c d : Value} (k : Blk w g t #[a, b, c, d]) (a' b' c' d' : Value) : Blk ((((w.setCell ⟨g, 0, none⟩ a').setCell ⟨g, 1, none⟩ b').setCell ⟨g, 2, none⟩ c').setCell ⟨g, 3, none⟩ d') g t #[a', b', c', d'] := by
  have := (((k.set_ 0 a').set_ 1 b').set_ 2 c').set_ 3 d'
  simpa using this
theorem Blk.far4 {w : World} {g x : Nat} {t : TypeId} {cs : Array Value} (k : Blk w g t cs) (hx : g ≠ x) (a' b' c' d' : Value) : Blk ((((w.setCell ⟨x, 0, none⟩ a').setCell ⟨x, 1, none⟩ b').setCell ⟨x, 2, none⟩ c').setCell ⟨x, 3, none⟩ d') g t cs :=
  (((k.far (p := ⟨x, 0, none⟩) hx a').far (p := ⟨x, 1, none⟩) hx b').far (p := ⟨x, 2, none⟩) hx c').far (p := ⟨x, 3, none⟩) hx d'
theorem first_dvd {n k : Nat} {m : Int} {all : Nat} (h : first n m all = n) (hk : all - (min (max m 0) all).toNat = k) : 2 ^ k ∣ n := by
  unfold first at h
  rw [hk] at h
  exact ⟨_, h.symm.trans (Nat.mul_comm _ _)⟩
theorem two_new {P : Program} {C : Code} {Q : Exit → Act → World → Prop} {a : Act} {X : World} {t : TypeId} {c5 c6 : Array Value}
    (h : ∀ w5, Fr N0 X w5 → Blk w5 X.heap.size t c5 → Blk w5 (X.heap.size + 1) t c6 → C.wp P Q a w5) : C.wp P Q a ((X.alloc (.cells c5 t)).alloc (.cells c6 t)).drew :=
  h _ (by repeat first | exact Fr.refl _ _ | refine Fr.drew ?_ | refine Fr.alloc ?_ _) (((Blk.new X t c5).alloc _).drew) ((Blk.alloc2 X _ t c6).drew)
section
variable {w : World}
end
end Go.Proofs.YtejddfgmfdpnfaaDoor
