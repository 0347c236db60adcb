/- A frame that takes no draw back: words for memory that hold over any program: a block that is known whole, a frame that names the blocks that may have turned. addr.Valid, the widths, first: what they answer. cut. A region that draws its order, whose operations only read what nobody writes, and whose callees may make memory: walked once, in the order of the text (the kit's lexical walk at a class of worlds of my own: all those that differ from one by new blocks alone). prefix.Valid. addr.Less, prefix.Less. -/
import Derived.WalkKit
import Derived.WalkSpells
import Derived.WalkLawsBesides
import Derived.Lib.Hide
import Derived.Deep.Draws
import Derived.Deep.QuietTactic
import Derived.BigQuiet
import Derived.Laws.MakeOwn
import Derived.Sort.Grow
import Derived.Test.YtnklbeigikcfkaaGreatDoorAd
import Derived.Test.YtnklbeigikcfkaaGreatDoorOpen
import Derived.IntWalk
import Derived.Deep.RegionWith
import Derived.Carry
import Derived.Test.YtnklbeigikcfkaaGreatDoorVa
import Derived.Laws.Rows
import Derived.Test.YtnklbeigikcfkaaGreatDoorCu
import Derived.Test.YtnklbeigikcfkaaGreatDoorQr
import Derived.Test.YtnklbeigikcfkaaGreatDoorVp
import Derived.Test.YtnklbeigikcfkaaGreatDoorCo
import Derived.Test.YtnklbeigikcfkaaGreatDoorPb
import Derived.Test.YtnklbeigikcfkaaGreatDoorLe
namespace Go.Proofs.YtnklbeigikcfkaaGreatDoor.U
open Go.RowKit

/-- Block g is just the cells cs of element type t, none frozen. -/
def Blk (w : World) (g : Nat) (t : TypeId) (cs : Array Value) : Prop := w.heap[g]? = some (.cells cs t (0, 0))

/-- Only the blocks of S (and new ones) may have turned. -/
structure Fr (S : Nat → Prop) (w w' : World) : Prop where
  os : w'.os = w.os
  tape : w'.tape = w.tape
  output : w'.output = w.output
  size : w.heap.size ≤ w'.heap.size
  block : ∀ k, k < w.heap.size → ¬ S k → w'.heap[k]? = w.heap[k]?
  dr : w.drawn ≤ w'.drawn

section
variable {w w' : World} {g : Nat} {t : TypeId} {cs : Array Value} {S S' : Nat → Prop}
theorem Blk.lt (h : Blk w g t cs) : g < w.heap.size := by
  rcases Nat.lt_or_ge g w.heap.size with hlt | hge
  · exact hlt
  · unfold Blk at h; rw [Array.getElem?_eq_none hge] at h; cases h
theorem Blk.cell (h : Blk w g t cs) (i : Nat) : w.cell? ⟨g, i, none⟩ = cs[i]? := cell_of_row w g i cs t (0, 0) h
theorem Blk.frozen (h : Blk w g t cs) (i : Nat) : w.frozen? ⟨g, i, none⟩ = false := by
  unfold Blk at h
  simp [World.frozen?, h]
theorem Blk.new (w : World) (t : TypeId) (cs : Array Value) : Blk (w.alloc (.cells cs t)) w.heap.size t cs := heap_alloc_new w _
theorem Blk.drew (h : Blk w g t cs) : Blk w.drew g t cs := h
theorem Blk.drewN (h : Blk w g t cs) (n : Nat) : Blk (w.drewN n) g t cs := h
theorem Blk.alloc (h : Blk w g t cs) (o : Obj) : Blk (w.alloc o) g t cs := (Below.heap_alloc w o g h.lt).trans h
theorem Blk.set_ (h : Blk w g t cs) (i : Nat) (u : Value) : Blk (w.setCell ⟨g, i, none⟩ u) g t (cs.setIfInBounds i u) := by
  unfold Blk at h ⊢
  simp [World.setCell, Array.getElem?_modify, h]
theorem Blk.far (h : Blk w g t cs) {p : Addr} (hp : g ≠ p.block) (u : Value) : Blk (w.setCell p u) g t cs := (Below.heap_setCell w p u g hp).trans h
theorem Blk.below {B : Nat} (h : Blk w g t cs) (hb : Below B w w') (hg : g < B) : Blk w' g t cs := (hb.block g hg).trans h
theorem Blk.fr (h : Blk w g t cs) (hb : Fr S w w') (hg : ¬ S g) : Blk w' g t cs := (hb.block g h.lt hg).trans h
theorem Blk.ne_ {g' : Nat} {t' : TypeId} {cs' : Array Value} (h : Blk w g t cs) (h' : Blk w g' t' cs') (hne : t ≠ t') : g ≠ g' := by
  rintro rfl
  unfold Blk at h h'
  rw [h] at h'
  injection h' with h'
  injection h' with _ ht
  exact hne ht
theorem Blk.same {cs' : Array Value} {t' : TypeId} (h : Blk w g t cs) (h' : Blk w g t' cs') : cs = cs' := by
  unfold Blk at h h'
  rw [h] at h'
  injection h' with h'
  injection h' with hc

theorem Fr.refl (S : Nat → Prop) (w : World) : Fr S w w := ⟨rfl, rfl, rfl, Nat.le_refl _, fun _ _ _ => rfl, Nat.le_refl _⟩
theorem Fr.trans {a b c : World} (h : Fr S a b) (k : Fr S b c) : Fr S a c :=
  ⟨k.os.trans h.os, k.tape.trans h.tape, k.output.trans h.output, Nat.le_trans h.size k.size, fun i hi hn => (k.block i (Nat.lt_of_lt_of_le hi h.size) hn).trans (h.block i hi hn), Nat.le_trans h.dr k.dr⟩
theorem Fr.mono {a b : World} (h : Fr S a b) (hS : ∀ k, k < a.heap.size → S k → S' k) : Fr S' a b :=
  ⟨h.os, h.tape, h.output, h.size, fun i hi hn => h.block i hi (fun hs => hn (hS i hi hs)), h.dr⟩
theorem Fr.drew {a w : World} (h : Fr S a w) : Fr S a w.drew := ⟨h.os, h.tape, h.output, h.size, h.block, Nat.le_succ_of_le h.dr⟩
theorem Fr.drewN {a w : World} (h : Fr S a w) (n : Nat) : Fr S a (w.drewN n) := ⟨h.os, h.tape, h.output, h.size, h.block, Nat.le_trans h.dr (Nat.le_add_right _ _)⟩
theorem Fr.alloc {a w : World} (h : Fr S a w) (o : Obj) : Fr S a (w.alloc o) :=
  ⟨h.os, h.tape, h.output, Nat.le_trans h.size (by simp), fun i hi hn => (Below.heap_alloc w o i (Nat.lt_of_lt_of_le hi h.size)).trans (h.block i hi hn), h.dr⟩
theorem Fr.setCell {a w : World} (h : Fr S a w) {p : Addr} (hp : S p.block ∨ a.heap.size ≤ p.block) (u : Value) : Fr S a (w.setCell p u) :=
  ⟨h.os, h.tape, h.output, by simpa [World.setCell] using h.size, fun i hi hn => (Below.heap_setCell w p u i (by
    rintro rfl
    rcases hp with hp | hp
    · exact hn hp
    · omega)).trans (h.block i hi hn), by simpa [World.setCell] using h.dr⟩
/-- A step within a step: what the inner one may turn is allowed outside, or is new. -/
theorem Fr.step {a w w' : World} (h : Fr S a w) (k : Fr S' w w') (hS : ∀ i, S' i → S i ∨ a.heap.size ≤ i) : Fr S a w' :=
  ⟨k.os.trans h.os, k.tape.trans h.tape, k.output.trans h.output, Nat.le_trans h.size k.size, fun i hi hn =>
    (k.block i (Nat.lt_of_lt_of_le hi h.size) (fun hs => (hS i hs).elim hn (fun hge => by omega))).trans (h.block i hi hn), Nat.le_trans h.dr k.dr⟩
theorem Fr.below {a w : World} {B : Nat} (h : Fr S a w) (hB : B ≤ a.heap.size) (hS : ∀ i, i < a.heap.size → S i → B ≤ i) : Below B a w :=
  ⟨h.os, h.tape, h.output, h.size, fun i hi => h.block i (by omega) (fun hs => by have := hS i (by omega) hs; omega)⟩
theorem below_fr {a w w' : World} {B : Nat} (h : Below B a w) (k : Fr S w w') (hB : B ≤ w.heap.size) (hS : ∀ i, S i → B ≤ i) : Below B a w' :=
  h.trans (k.below hB (fun i _ hi => hS i hi))
theorem Fr.cell {a w : World} (h : Fr S a w) {p : Addr} (hp : p.block < a.heap.size) (hn : ¬ S p.block) : w.cell? p = a.cell? p := World.cell?_of_block (w := a) (h.block p.block hp hn)
theorem Fr.frozen {a w : World} (h : Fr S a w) {p : Addr} (hp : p.block < a.heap.size) (hn : ¬ S p.block) : w.frozen? p = a.frozen? p := World.frozen?_of_block (w := a) (h.block p.block hp hn)
end

/-- A quiet call in a region that begins in a world which has drawn already. -/
theorem quiet_add {P : Program} {f : FuncId} {args : Array Value} {w : World} {a n : Nat} {v : Value}
    (h : Calls P f args (w.drewN (a + n)) fun e w' => e = .returned v ∧ ∃ m, w' = (w.drewN (a + n)).drewN m) :
    Calls P f args (w.drewN (a + n)) fun e w'' => e = .returned v ∧ ∃ m, w'' = w.drewN (a + m) :=
  h.mono fun _ _ ⟨he, m, hm⟩ => ⟨he, n + m, by rw [hm, World.drewN_drewN, Nat.add_assoc]⟩
theorem quiet_add_same {P : Program} {f : FuncId} {args : Array Value} {w : World} {a n : Nat} {v : Value}
    (h : Calls P f args (w.drewN (a + n)) fun e w' => e = .returned v ∧ w' = w.drewN (a + n)) :
    Calls P f args (w.drewN (a + n)) fun e w'' => e = .returned v ∧ ∃ m, w'' = w.drewN (a + m) :=
  h.mono fun _ _ ⟨he, hm⟩ => ⟨he, n, hm⟩
theorem left_same {P : Program} {f : FuncId} {args : Array Value} {w : World} {v : Value}
    (h : Calls P f args w fun e w' => e = .returned v ∧ w = w') : Calls P f args w fun e w' => e = .returned v ∧ w' = w :=
  h.mono fun _ _ ⟨he, hm⟩ => ⟨he, hm.symm⟩
/-- make([]T, n) at a length that is a variable: the new block, written out. -/
theorem run_make_rowN {P : Program} (t e : TypeId) (i : TypeInfo) (z : Value) (ht : P.underlying t = some (.slice e)) (hi : P.info? e = some i) (hz : i.zero = some z)
    (kl kc : IntKind) (n c : Nat) (hnc : n ≤ c) (hbytes : i.bytes * c ≤ 281474976710656) (h63 : c ≤ 9223372036854775807) (w : World) :
    (Instr.makeSlice t (.int kl (n : Int)) (.int kc (c : Int))).run P w = .ok (.slice (some ⟨w.heap.size, 0, none⟩) n c) (w.alloc (.cells (madeCells z.cells (c * i.size)) e)) := by
  have hb : (i.bytes : Int) * (c : Int) ≤ 281474976710656 := by
    have h : ((i.bytes * c : Nat) : Int) ≤ 281474976710656 := by omega
    rwa [Int.natCast_mul] at h
  have hr := run_make (P := P) w t e i z ht hi hz kl kc n c (by omega) (by omega) hb (by omega)
  simp only [Int.toNat_natCast] at hr
  exact hr
/-- '&' of any int and a mask. -/
theorem i64_mask (a : Int) (k : Nat) (hk : k ≤ 62) : bits .and .i64 a (((2 ^ k : Nat) : Int) - 1) = a % ((2 ^ k : Nat) : Int) := by
  have h1 : 1 ≤ 2 ^ k := Nat.one_le_two_pow
  have h2 : 2 ^ k ≤ 2 ^ 62 := Nat.pow_le_pow_right (by omega) hk
  have hd : (2 ^ k) ∣ 2 ^ 64 := Nat.pow_dvd_pow 2 (by omega)
  have e : (((2 ^ k : Nat) : Int) - 1) = ((2 ^ k - 1 : Nat) : Int) := by omega
  rw [e]
  show IntKind.i64.wrap ((BitVec.ofInt 64 a &&& BitVec.ofInt 64 ((2 ^ k - 1 : Nat) : Int)).toNat : Int) = _
  rw [BitVec.toNat_and, BitVec.ofInt_natCast, BitVec.toNat_ofNat, Nat.mod_eq_of_lt (by omega : 2 ^ k - 1 < 2 ^ 64), Nat.and_two_pow_sub_one_eq_mod, BitVec.toNat_ofInt, IntKind.wrap_i64]
  have h3 : (((a % ((2 ^ 64 : Nat) : Int)).toNat % 2 ^ k : Nat) : Int) = a % ((2 ^ k : Nat) : Int) := by
    rw [Int.natCast_emod, Int.toNat_of_nonneg (Int.emod_nonneg _ (by omega))]
    exact Int.emod_emod_of_dvd a (Int.natCast_dvd_natCast.2 hd)
  rw [h3]
  have h4 : 0 ≤ a % ((2 ^ k : Nat) : Int) := Int.emod_nonneg _ (by omega)
  have h5 : a % ((2 ^ k : Nat) : Int) < ((2 ^ k : Nat) : Int) := Int.emod_lt_of_pos _ (by omega)
  omega
theorem i64_and7 (a : Int) : bits .and .i64 a 7 = a % 8 := i64_mask a 3 (by omega)
theorem i64_and3 (a : Int) : bits .and .i64 a 3 = a % 4 := i64_mask a 2 (by omega)
theorem i64_and1023 (a : Int) : bits .and .i64 a 1023 = a % 1024 := i64_mask a 10 (by omega)
theorem ret_eq {k : IntKind} {a b : Int} (h : a = b) : Ending.returned (.int k a) = .returned (.int k b) := by rw [h]

/-- Nothing but draws and new blocks. -/
theorem Fr.grow {w w' : World} (h : Fr (fun _ => False) w w') : ∃ n os, w' = Go.Sort.grow (w.drewN n) os := by
  refine ⟨w'.drawn - w.drawn, w'.heap.extract w.heap.size w'.heap.size, ?_⟩
  have hh : w'.heap = w.heap ++ w'.heap.extract w.heap.size w'.heap.size := by
    apply Array.ext_getElem?
    intro i
    rw [Array.getElem?_append]
    split
    · rename_i hi
      exact h.block i hi id
    · rename_i hi
      rw [Array.getElem?_extract]
      have := h.size
      by_cases k : i < w'.heap.size
      · rw [if_pos (by omega), show w.heap.size + (i - w.heap.size) = i by omega]
      · rw [if_neg (by omega), Array.getElem?_eq_none (by omega)]
  obtain ⟨H, T, D, O, U⟩ := w
  obtain ⟨H', T', D', O', U'⟩ := w'
  have h1 := h.os
  have h2 := h.tape
  have h3 := h.output
  have h4 := h.dr
  simp only at h1 h2 h3 h4 hh
  subst h1 h2 h3
  simp only [Go.Sort.grow, World.drewN, World.mk.injEq, true_and]
  exact ⟨hh, by omega, trivial⟩
end Go.Proofs.YtnklbeigikcfkaaGreatDoor.U
namespace Go.Proofs.YtnklbeigikcfkaaGreatDoor.U
open Go.RowKit

theorem retb {a b : Bool} (h : a = b) : Ending.returned (.bool a) = .returned (.bool b) := by rw [h]
/-- No block that was there has turned. -/
def N0 : Nat → Prop := fun _ => False
theorem fst_eq {n k s : Nat} {m : Int} (hn : n < 18446744073709551616) (hs : k - (min (max m 0) (k : Int)).toNat = s) : IntKind.u64.wrap ((n : Int) / 2 ^ s * 2 ^ s) = ((first n m k : Nat) : Int) := by
  have h := first_le n m k
  have e : (n : Int) / 2 ^ s * 2 ^ s = ((first n m k : Nat) : Int) := by
    unfold first
    rw [hs]
    simp
  rw [e, IntWalk.u64_in _ (by omega)]
theorem fst_id {n k : Nat} {m : Int} (hn : n < 18446744073709551616) (hs : k - (min (max m 0) (k : Int)).toNat = 0) : IntKind.u64.wrap (n : Int) = ((first n m k : Nat) : Int) := by
  have := fst_eq hn hs
  simpa using this
section
variable {w : World}
set_option maxHeartbeats 1600000 in
theorem aval (a : Ad) : Calls Tryz.prog 65 #[adV a] w fun e w' => e = .returned (.bool (validA a)) ∧ Fr N0 w w' := by
  obtain ⟨s, h, l⟩ := a
  cases s with
  | true =>
    go_enter Tryz.func65, Tryz.ntmps65
    unfold adV
    go_wp2_with fail
    go_ret
    exact ⟨retb (by simp [validA]), (Fr.refl _ _).alloc _⟩
  | false =>
    by_cases e : h = 0
    · subst e
      go_enter Tryz.func65, Tryz.ntmps65
      unfold adV
      go_wp2_with fail
      go_ret
      exact ⟨retb (by simp [validA]; omega), (Fr.refl _ _).alloc _⟩
    · have e1 : decide ((h : Int) = 0) = false := by simp; omega
      go_enter Tryz.func65, Tryz.ntmps65
      unfold adV
      go_wp2_with fail
      go_ret
      exact ⟨retb (by simp [validA, e]), (Fr.refl _ _).alloc _⟩
theorem wid (a : Ad) : Calls Tryz.prog 66 #[adV a] w fun e w' => e = .returned (.int .i64 (widthA a)) ∧ Fr N0 w w' := by
  obtain ⟨s, h, l⟩ := a
  cases s with
  | true =>
    go_enter Tryz.func66, Tryz.ntmps66
    unfold adV
    go_wp2_with fail
    go_ret
    exact ⟨rfl, (Fr.refl _ _).alloc _⟩
  | false =>
    go_enter Tryz.func66, Tryz.ntmps66
    unfold adV
    go_wp2_with fail
    go_ret
    exact ⟨rfl, (Fr.refl _ _).alloc _⟩
theorem fst_ (n : Nat) (hn : n < 18446744073709551616) (m : Int) (h1 : -9223372036854775808 ≤ m) (h2 : m ≤ 9223372036854775807) (k : Nat) (hk : k ≤ 64) :
    Calls Tryz.prog 87 #[.int .u64 n, .int .i64 m, .int .i64 (k : Int)] w fun e w' => e = .returned (.int .u64 (first n m k)) ∧ w = w' := by
  go_enter Tryz.func87, Tryz.ntmps87
  go_wp2_with fail
  all_goals go_ret
  all_goals refine ⟨ret_eq ?_, rfl⟩
  all_goals first | exact fst_id hn (by omega) | exact fst_eq hn (by omega) | skip
end
end Go.Proofs.YtnklbeigikcfkaaGreatDoor.U
namespace Go.Proofs.YtnklbeigikcfkaaGreatDoor.U
open Go.RowKit
theorem Blk.alloc2 (w : World) (A : Obj) (t : TypeId) (cs : Array Value) : Blk ((w.alloc A).alloc (.cells cs t)) (w.heap.size + 1) t cs := heap_alloc2_new w A _
/-- A result that lies in a block. -/
theorem ret_cell {fn : Func} {p : Tmp} {ty : TypeId} {tmps cs : Array Value} {w : World} {g : Nat} {fs} {R : Ending → World → Prop} (hr : fn.results = #[.cell p ty]) (hp : tmps.getD p undef = .pointer (some ⟨g, 0, none⟩)) (hb : Blk w g ty cs)
    (hu : Tryz.prog.underlying ty = some (.struct fs)) (hi : (Tryz.prog.info? ty).map (·.size) = some cs.size) (hR : R (.returned (.agg cs)) w) : bodyPost Tryz.prog fn R .ret ⟨tmps, []⟩ w :=
  bodyPost_ret_by (results_cell_row hr tmps w g ty cs (0, 0) _ hp hb hu rfl hi) rfl hR
section
variable {w : World}
set_option maxHeartbeats 1600000 in
set_option maxRecDepth 100000 in
theorem cut_ (a : Ad) (ho : a.ok) (m : Int) (h1 : 0 ≤ m) (h2 : m ≤ 128) : Calls Tryz.prog 67 #[adV a, .int .i64 m] w fun e w' => e = .returned (adV (cutA a m)) ∧ Fr N0 w w' := by
  obtain ⟨s, h, l⟩ := a
  obtain ⟨ho1, ho2⟩ := ho
  simp only at ho1 ho2
  have f64 : ∀ (w : World) (n : Nat) (hn : n < 18446744073709551616) (m : Int) (h1 : -9223372036854775808 ≤ m) (h2 : m ≤ 9223372036854775807), Calls Tryz.prog 87 #[.int .u64 n, .int .i64 m, .int .i64 64] w fun e w' => e = .returned (.int .u64 (first n m 64)) ∧ w = w' := fun w n hn m h1 h2 => fst_ n hn m h1 h2 64 (by omega)
  have f32 : ∀ (w : World) (n : Nat) (hn : n < 18446744073709551616) (m : Int) (h1 : -9223372036854775808 ≤ m) (h2 : m ≤ 9223372036854775807), Calls Tryz.prog 87 #[.int .u64 n, .int .i64 m, .int .i64 32] w fun e w' => e = .returned (.int .u64 (first n m 32)) ∧ w = w' := fun w n hn m h1 h2 => fst_ n hn m h1 h2 32 (by omega)
  cases s with
  | true =>
    go_enter Tryz.func67, Tryz.ntmps67
    unfold adV
    go_wp2_with fail
    have hw64 : IntKind.i64.wrap (m - 64) = m - 64 := IntWalk.i64_in _ (by omega)
    go_region_with (go_at_call 87; refine (f64 _ _ (by omega) _ (by omega) (by omega)).mono ?_; rintro e w2 ⟨rfl, rfl⟩)
    all_goals go_wp2_with fail
    all_goals refine ret_cell rfl rfl (Blk.alloc2 _ _ _ _) Tryz.underlying30 rfl ⟨?_, by repeat first | exact Fr.refl _ _ | refine Fr.drewN ?_ _ | refine Fr.drew ?_ | refine Fr.alloc ?_ _⟩
    all_goals simp [cutA]
  | false =>
    go_enter Tryz.func67, Tryz.ntmps67
    unfold adV
    go_wp2_with fail
    refine (f32 _ l ho2 m (by omega) (by omega)).mono ?_
    rintro e w2 ⟨rfl, rfl⟩
    go_wp2_with fail
    refine ret_cell rfl rfl (Blk.alloc2 _ _ _ _) Tryz.underlying30 rfl ⟨?_, by repeat first | exact Fr.refl _ _ | refine Fr.drewN ?_ _ | refine Fr.drew ?_ | refine Fr.alloc ?_ _⟩
    simp [cutA]
end
end Go.Proofs.YtnklbeigikcfkaaGreatDoor.U
namespace Go.Proofs.YtnklbeigikcfkaaGreatDoor.U
open Go.RowKit
/-- A world that differs from w by new blocks alone. -/
def Fam (w : World) : Type := { W : World // Fr N0 w W }
def Fam.w {w : World} (x : Fam w) : World := x.1
theorem Fam.fr {w : World} (x : Fam w) : Fr N0 w x.w := x.2
instance famSome (w : World) : Nonempty (Fam w) := ⟨⟨w, Fr.refl _ _⟩⟩
theorem fam_call {P : Program} {f : FuncId} {args : Array Value} {w : World} {x : Fam w} {v : Value} (h : Calls P f args x.w fun e W => e = .returned v ∧ Fr N0 x.w W) :
    Calls P f args x.w fun e W => e = .returned v ∧ ∃ y : Fam w, W = y.w :=
  h.mono fun _ W ⟨he, hf⟩ => ⟨he, ⟨W, x.fr.trans hf⟩, rfl⟩
theorem fam_same {P : Program} {f : FuncId} {args : Array Value} {w : World} {x : Fam w} {v : Value} (h : Calls P f args x.w fun e W => e = .returned v ∧ x.w = W) :
    Calls P f args x.w fun e W => e = .returned v ∧ ∃ y : Fam w, W = y.w :=
  h.mono fun _ _ ⟨he, hf⟩ => ⟨he, x, hf.symm⟩
theorem wp_region_fam {P : Program} {id : Nat} {Q : Exit → Act → World → Prop} {a : Act} {w : World} {l : List Oper} (hm : P.follows .mixedOrders = true) (hB : Region.lexB .any l.toArray = true)
    (h : wpQuiet P l.toArray (fun w' => ∃ x : Fam w, w' = x.w) (fun a' => ∀ w', (∃ x : Fam w, w' = x.w) → Q .normal a' w') l a) : (Code.region id l.toArray true).wp P Q a w :=
  wp_region_quiet (C := fun w' => ∃ x : Fam w, w' = x.w) hm hB ⟨⟨w.drew, (Fr.refl _ _).drew⟩, rfl⟩ (by simpa using h)
theorem Blk.c1 {w : World} {g : Nat} {t : TypeId} {a : Value} (k : Blk w g t #[a]) : w.cell? ⟨g, 0, none⟩ = some a := k.cell 0
theorem Blk.c2 {w : World} {g : Nat} {t : TypeId} {a b : Value} (k : Blk w g t #[a, b]) : w.cell? ⟨g, 0, none⟩ = some a ∧ w.cell? ⟨g, 1, none⟩ = some b := ⟨k.cell 0, k.cell 1⟩
theorem Blk.c3 {w : World} {g : Nat} {t : TypeId} {a b c : Value} (k : Blk w g t #[a, b, c]) : w.cell? ⟨g, 0, none⟩ = some a ∧ w.cell? ⟨g, 1, none⟩ = some b ∧ w.cell? ⟨g, 2, none⟩ = some c := ⟨k.cell 0, k.cell 1, k.cell 2⟩
theorem Blk.c4 {w : World} {g : Nat} {t : TypeId} {a b c d : Value} (k : Blk w g t #[a, b, c, d]) : w.cell? ⟨g, 0, none⟩ = some a ∧ w.cell? ⟨g, 1, none⟩ = some b ∧ w.cell? ⟨g, 2, none⟩ = some c ∧ w.cell? ⟨g, 3, none⟩ = some d := ⟨k.cell 0, k.cell 1, k.cell 2, k.cell 3⟩
theorem Blk.alloc3 (w : World) (A B : Obj) (t : TypeId) (cs : Array Value) : Blk (((w.alloc A).alloc B).alloc (.cells cs t)) (w.heap.size + 2) t cs := by
  have h := heap_alloc_new ((w.alloc A).alloc B) (.cells cs t)
  have e : ((w.alloc A).alloc B).heap.size = w.heap.size + 2 := by simp
  rw [e] at h
  exact h
theorem Blk.alloc4 (w : World) (A B C : Obj) (t : TypeId) (cs : Array Value) : Blk ((((w.alloc A).alloc B).alloc C).alloc (.cells cs t)) (w.heap.size + 3) t cs := by
  have h := heap_alloc_new (((w.alloc A).alloc B).alloc C) (.cells cs t)
  have e : (((w.alloc A).alloc B).alloc C).heap.size = w.heap.size + 3 := by simp
  rw [e] at h
  exact h
end Go.Proofs.YtnklbeigikcfkaaGreatDoor.U
namespace Go.Proofs.YtnklbeigikcfkaaGreatDoor.U
open Go.RowKit
/-- The cells of a block with an address. -/
def AdX (w : World) (g : Nat) (s : Bool) (h l : Nat) : Prop :=
  w.cell? ⟨g, 0, none⟩ = some (.bool s) ∧ w.cell? ⟨g, 1, none⟩ = some (.int .u64 (h : Int)) ∧ w.cell? ⟨g, 2, none⟩ = some (.int .u64 (l : Int))
/-- The cells of a block with a prefix. -/
def PxX (w : World) (g : Nat) (s : Bool) (h l : Nat) (m : Int) : Prop :=
  w.cell? ⟨g, 0, none⟩ = some (.bool s) ∧ w.cell? ⟨g, 1, none⟩ = some (.int .u64 (h : Int)) ∧ w.cell? ⟨g, 2, none⟩ = some (.int .u64 (l : Int)) ∧ w.cell? ⟨g, 3, none⟩ = some (.int .i64 m)
theorem PxX.fr {w W : World} {g : Nat} {s : Bool} {h l : Nat} {m : Int} {S : Nat → Prop} (k : PxX w g s h l m) (hf : Fr S w W) (hg : g < w.heap.size) (hS : ¬ S g) : PxX W g s h l m :=
  ⟨(hf.cell (p := ⟨g, 0, none⟩) hg hS).trans k.1, (hf.cell (p := ⟨g, 1, none⟩) hg hS).trans k.2.1, (hf.cell (p := ⟨g, 2, none⟩) hg hS).trans k.2.2.1, (hf.cell (p := ⟨g, 3, none⟩) hg hS).trans k.2.2.2⟩
theorem AdX.fr {w W : World} {g : Nat} {s : Bool} {h l : Nat} {S : Nat → Prop} (k : AdX w g s h l) (hf : Fr S w W) (hg : g < w.heap.size) (hS : ¬ S g) : AdX W g s h l :=
  ⟨(hf.cell (p := ⟨g, 0, none⟩) hg hS).trans k.1, (hf.cell (p := ⟨g, 1, none⟩) hg hS).trans k.2.1, (hf.cell (p := ⟨g, 2, none⟩) hg hS).trans k.2.2⟩
theorem PxX.new (w : World) (t : TypeId) (s : Bool) (h l : Nat) (m : Int) : PxX (w.alloc (.cells #[.bool s, .int .u64 (h : Int), .int .u64 (l : Int), .int .i64 m] t)) w.heap.size s h l m :=
  ⟨(Blk.new _ _ _).cell 0, (Blk.new _ _ _).cell 1, (Blk.new _ _ _).cell 2, (Blk.new _ _ _).cell 3⟩
theorem AdX.new (w : World) (t : TypeId) (s : Bool) (h l : Nat) : AdX (w.alloc (.cells #[.bool s, .int .u64 (h : Int), .int .u64 (l : Int)] t)) w.heap.size s h l :=
  ⟨(Blk.new _ _ _).cell 0, (Blk.new _ _ _).cell 1, (Blk.new _ _ _).cell 2⟩
theorem size_new (w : World) (o : Obj) : w.heap.size < (w.alloc o).heap.size := by simp
section
variable {w : World}
set_option maxHeartbeats 1600000 in
set_option maxRecDepth 100000 in
theorem val_ (p : Px) (ho : p.ok) : Calls Tryz.prog 58 #[pxV p] w fun e w' => e = .returned (.bool (validP p)) ∧ Fr N0 w w' := by
  obtain ⟨⟨s, h, l⟩, m⟩ := p
  obtain ⟨⟨ho1, ho2⟩, ho3, ho4⟩ := ho
  simp only at ho1 ho2 ho3 ho4
  have c29 : ∀ (w : World) {b : Bool}, validA ⟨s, h, l⟩ = b → Calls Tryz.prog 65 #[.agg #[.bool s, .int .u64 (h : Int), .int .u64 (l : Int)]] w fun e w' => e = .returned (.bool b) ∧ Fr N0 w w' := fun w b hb => hb ▸ aval (w := w) ⟨s, h, l⟩
  have c30 : ∀ w : World, Calls Tryz.prog 66 #[.agg #[.bool s, .int .u64 (h : Int), .int .u64 (l : Int)]] w fun e w' => e = .returned (.int .i64 (widthA ⟨s, h, l⟩)) ∧ Fr N0 w w' := fun w => wid (w := w) ⟨s, h, l⟩
  have E : ∀ W, Sem.run Tryz.prog (binOp .eql 30 (adV (cutA ⟨s, h, l⟩ m)) (.agg #[.bool s, .int .u64 (h : Int), .int .u64 (l : Int)])) W = .ok (.bool (decide (cutA ⟨s, h, l⟩ m = ⟨s, h, l⟩))) W := fun W => eql_ad (cutA ⟨s, h, l⟩ m) ⟨s, h, l⟩ W
  have EG : ∀ X Y W, Sem.run Tryz.prog (eqGuard .eql 30 X Y (adV (cutA ⟨s, h, l⟩ m)) (.agg #[.bool s, .int .u64 (h : Int), .int .u64 (l : Int)])) W = .ok () W := fun X Y W => guard_ad .eql X Y (cutA ⟨s, h, l⟩ m) ⟨s, h, l⟩ W
  have c31 : ∀ w : World, 0 ≤ m → m ≤ 128 → Calls Tryz.prog 67 #[.agg #[.bool s, .int .u64 (h : Int), .int .u64 (l : Int)], .int .i64 m] w fun e w' => e = .returned (adV (cutA ⟨s, h, l⟩ m)) ∧ Fr N0 w w' := fun w h1 h2 => cut_ (w := w) ⟨s, h, l⟩ ⟨ho1, ho2⟩ m h1 h2
  have hw := Lib.hid (show widthA ⟨s, h, l⟩ ≤ 128 by unfold widthA; split <;> omega)
  have key : ∀ b, (validA ⟨s, h, l⟩ = b ∧ (b = false ∨ (b = true ∧ m < 0 ∧ decide (0 ≤ m) = false) ∨ (b = true ∧ 0 ≤ m ∧ decide (m ≤ (widthA ⟨s, h, l⟩ : Int)) = false) ∨ (b = true ∧ 0 ≤ m ∧ m ≤ (widthA ⟨s, h, l⟩ : Int) ∧ decide (m ≤ (widthA ⟨s, h, l⟩ : Int)) = true))) →
      Calls Tryz.prog 58 #[pxV ⟨⟨s, h, l⟩, m⟩] w fun e w' => e = .returned (.bool (validP ⟨⟨s, h, l⟩, m⟩)) ∧ Fr N0 w w' := by
    rintro b ⟨e1, hc⟩
    have k29 := fun w => c29 w e1
    have e1' := Lib.hid e1
    clear c29 e1
    go_enter Tryz.func58, Tryz.ntmps58
    unfold pxV
    go_wp2_with fail
    have HX := PxX.new w 32 s h l m
    have HB := Lib.hid (size_new w (.cells #[.bool s, .int .u64 (h : Int), .int .u64 (l : Int), .int .i64 m] 32))
    have HF1 := Lib.hid (Fr.alloc (Fr.refl N0 w) (.cells #[.bool s, .int .u64 (h : Int), .int .u64 (l : Int), .int .i64 m] 32))
    generalize w.alloc _ = w1 at *
    have HXW := Lib.hid (fun W (hf : Fr N0 w1 W) => HX.fr hf HB.out id)
    have z0 := fun x : Fam w1 => (HXW.out x.w x.fr).1
    have z1 := fun x : Fam w1 => (HXW.out x.w x.fr).2.1
    have z2 := fun x : Fam w1 => (HXW.out x.w x.fr).2.2.1
    have z3 := fun x : Fam w1 => (HXW.out x.w x.fr).2.2.2
    clear HX
    generalize w.heap.size = g at *
    rcases hc with rfl | ⟨rfl, hm, hd⟩ | ⟨rfl, hm, hd⟩ | ⟨rfl, hm, hm2, hd⟩
    all_goals
      refine wp_region_fam (by kernel_rfl) (by kernel_rfl) ?_
      repeat (go_big_quiet_step ((first
        | (go_at_call 65; exact fam_call (k29 _))
        | (go_at_call 66; exact fam_call (c30 _))
        | (go_at_call 67; exact fam_call (c31 _ hm (by have := hw.out; omega))))))
      first | refine wpQuiet_nil ?_ | (go_big_quiet_want; go_big_quiet_op; done)
      rintro _ ⟨xq, rfl⟩
      go_wp2_with fail
      go_ret
      refine ⟨retb ?_, HF1.out.trans xq.fr⟩
      have e1 := e1'.out
      unfold validP
      simp [e1]
      try first | omega | (intro h1 h2; exact absurd h2 (of_decide_eq_false hd))
  exact key _ ⟨rfl, by
    by_cases h0 : validA ⟨s, h, l⟩ = true
    · by_cases h1 : m < 0
      · exact .inr (.inl ⟨h0, h1, by simpa using h1⟩)
      · by_cases h2 : m ≤ (widthA ⟨s, h, l⟩ : Int)
        · exact .inr (.inr (.inr ⟨h0, by omega, h2, by simpa using h2⟩))
        · exact .inr (.inr (.inl ⟨h0, by omega, by simpa using h2⟩))
    · exact .inl (by simpa using h0)⟩
end
end Go.Proofs.YtnklbeigikcfkaaGreatDoor.U
namespace Go.Proofs.YtnklbeigikcfkaaGreatDoor.U
open Go.RowKit
section
variable {w : World}
set_option maxHeartbeats 1600000 in
set_option maxRecDepth 100000 in
theorem ales_ (a b : Ad) (ha : a.ok) (hb : b.ok) : Calls Tryz.prog 59 #[adV a, adV b] w fun e w' => e = .returned (.bool (ltA a b)) ∧ Fr N0 w w' := by
  obtain ⟨s, h, l⟩ := a
  obtain ⟨s', h', l'⟩ := b
  obtain ⟨ha1, ha2⟩ := ha
  obtain ⟨hb1, hb2⟩ := hb
  simp only at ha1 ha2 hb1 hb2
  have c29 : ∀ (w : World) {b : Bool}, validA ⟨s, h, l⟩ = b → Calls Tryz.prog 65 #[.agg #[.bool s, .int .u64 (h : Int), .int .u64 (l : Int)]] w fun e w' => e = .returned (.bool b) ∧ Fr N0 w w' := fun w b hb => hb ▸ aval (w := w) ⟨s, h, l⟩
  have d29 : ∀ (w : World) {b : Bool}, validA ⟨s', h', l'⟩ = b → Calls Tryz.prog 65 #[.agg #[.bool s', .int .u64 (h' : Int), .int .u64 (l' : Int)]] w fun e w' => e = .returned (.bool b) ∧ Fr N0 w w' := fun w b hb => hb ▸ aval (w := w) ⟨s', h', l'⟩
  obtain ⟨d, hdd⟩ : ∃ d, d = decide ((⟨s, h, l⟩ : Ad) = ⟨s', h', l'⟩) := ⟨_, rfl⟩
  have HDD := Lib.hid hdd
  have E : ∀ W, Sem.run Tryz.prog (binOp .eql 30 (.agg #[.bool s, .int .u64 (h : Int), .int .u64 (l : Int)]) (.agg #[.bool s', .int .u64 (h' : Int), .int .u64 (l' : Int)])) W = .ok (.bool d) W := fun W => by rw [hdd]; exact ad_eql_lit W
  have EG : ∀ X Y W, Sem.run Tryz.prog (eqGuard .eql 30 X Y (.agg #[.bool s, .int .u64 (h : Int), .int .u64 (l : Int)]) (.agg #[.bool s', .int .u64 (h' : Int), .int .u64 (l' : Int)])) W = .ok () W := fun X Y W => ad_guard_lit X Y W
  clear hdd
  have key : ∀ b b' r, validA ⟨s, h, l⟩ = b → validA ⟨s', h', l'⟩ = b' → ltA ⟨s, h, l⟩ ⟨s', h', l'⟩ = r → ((b = false ∧ r = false) ∨ (b = true ∧ b' = false ∧ r = false) ∨ (b = true ∧ b' = true ∧ d = true ∧ r = false)
      ∨ (b = true ∧ b' = true ∧ d = false ∧ s = true ∧ s' = false ∧ r = false) ∨ (b = true ∧ b' = true ∧ d = false ∧ s = false ∧ s' = true ∧ r = true)
      ∨ (b = true ∧ b' = true ∧ d = false ∧ s = s' ∧ h ≠ h' ∧ (h : Int) ≠ (h' : Int) ∧ r = decide (h < h')) ∨ (b = true ∧ b' = true ∧ d = false ∧ s = s' ∧ h = h' ∧ r = decide (l < l'))) →
      Calls Tryz.prog 59 #[adV ⟨s, h, l⟩, adV ⟨s', h', l'⟩] w fun e w' => e = .returned (.bool r) ∧ Fr N0 w w' := by
    rintro b b' r e1 e2 er hc
    have k29 := fun w => c29 w e1
    have q29 := fun w => d29 w e2
    clear c29 d29 e1 e2 er
    go_enter Tryz.func59, Tryz.ntmps59
    unfold adV
    go_wp2_with fail
    have HA1 := Lib.hid ((Blk.new w 30 #[Value.bool s, Value.int .u64 (h : Int), Value.int .u64 (l : Int)]).alloc (.cells #[Value.bool s', Value.int .u64 (h' : Int), Value.int .u64 (l' : Int)] 30))
    have HA2 := Lib.hid (Blk.alloc2 w (.cells #[Value.bool s, Value.int .u64 (h : Int), Value.int .u64 (l : Int)] 30) 30 #[Value.bool s', Value.int .u64 (h' : Int), Value.int .u64 (l' : Int)])
    have HF1 := Lib.hid (Fr.alloc (Fr.alloc (Fr.refl N0 w) (.cells #[Value.bool s, Value.int .u64 (h : Int), Value.int .u64 (l : Int)] 30)) (.cells #[Value.bool s', Value.int .u64 (h' : Int), Value.int .u64 (l' : Int)] 30))
    generalize World.alloc (w.alloc _) _ = w1 at *
    obtain ⟨g2, hg2⟩ : ∃ g2, g2 = w.heap.size + 1 := ⟨_, rfl⟩
    rw [← hg2] at HA2 ⊢
    have HG2 : Hid (w.heap.size ≤ g2) := Lib.hid (by omega)
    obtain ⟨g1, hg1⟩ : ∃ g1, g1 = w.heap.size := ⟨_, rfl⟩
    rw [← hg1] at HA1 ⊢
    have HG1 : Hid (w.heap.size ≤ g1) := Lib.hid (by omega)
    have HN1_2 : Hid (g1 ≠ g2) := Lib.hid (by omega)
    clear hg1 hg2
    have HZ1 : Hid (∀ W, Fr N0 w1 W → Blk W g1 30 #[Value.bool s, Value.int .u64 (h : Int), Value.int .u64 (l : Int)]) := Lib.hid fun W hf => HA1.out.fr hf id
    have HZ2 : Hid (∀ W, Fr N0 w1 W → Blk W g2 30 #[Value.bool s', Value.int .u64 (h' : Int), Value.int .u64 (l' : Int)]) := Lib.hid fun W hf => HA2.out.fr hf id
    have F := Lib.hid (Fr.refl N0 w1)
    obtain ⟨z1_0, z1_1, z1_2⟩ := (HZ1.out _ F.out).c3
    obtain ⟨z2_0, z2_1, z2_2⟩ := (HZ2.out _ F.out).c3
    rcases hc with ⟨rfl, he⟩ | ⟨rfl, rfl, he⟩ | ⟨rfl, rfl, rfl, he⟩ | ⟨rfl, rfl, rfl, rfl, rfl, he⟩ | ⟨rfl, rfl, rfl, rfl, rfl, he⟩ | ⟨rfl, rfl, rfl, rfl, hn, hn', he⟩ | ⟨rfl, rfl, rfl, rfl, rfl, he⟩
    all_goals
      have HE := Lib.hid he
      clear he
      go_wp2_with (first
        | (go_at_call_of 65 l; refine (k29 _).mono ?_; rintro e w2 ⟨rfl, hf⟩; have F := Lib.hid (F.out.trans hf); obtain ⟨z1_0, z1_1, z1_2⟩ := (HZ1.out _ F.out).c3; obtain ⟨z2_0, z2_1, z2_2⟩ := (HZ2.out _ F.out).c3)
        | (go_at_call_of 65 l'; refine (q29 _).mono ?_; rintro e w2 ⟨rfl, hf⟩; have F := Lib.hid (F.out.trans hf); obtain ⟨z1_0, z1_1, z1_2⟩ := (HZ1.out _ F.out).c3; obtain ⟨z2_0, z2_1, z2_2⟩ := (HZ2.out _ F.out).c3))
      go_ret
      exact ⟨retb HE.out.symm, HF1.out.trans F.out⟩
  refine key _ _ _ rfl rfl rfl ?_
  have hd := HDD.out
  unfold ltA
  cases h1 : validA ⟨s, h, l⟩ with
  | false => exact .inl ⟨rfl, by simp⟩
  | true =>
    cases h2 : validA ⟨s', h', l'⟩ with
    | false => exact .inr (.inl ⟨rfl, rfl, by simp⟩)
    | true =>
      by_cases h3 : (⟨s, h, l⟩ : Ad) = ⟨s', h', l'⟩
      · exact .inr (.inr (.inl ⟨rfl, rfl, by rw [hd]; simpa using h3, by simp [h3]⟩))
      · have h3' : d = false := by rw [hd]; exact decide_eq_false h3
        rw [if_neg (by simpa using h3)]
        by_cases h4 : s = s'
        · rw [if_neg (by simpa using h4)]
          by_cases h5 : h = h'
          · rw [if_neg (by simpa using h5)]
            exact .inr (.inr (.inr (.inr (.inr (.inr ⟨rfl, rfl, h3', h4, h5, rfl⟩)))))
          · rw [if_pos (by simpa using h5)]
            exact .inr (.inr (.inr (.inr (.inr (.inl ⟨rfl, rfl, h3', h4, h5, by omega, rfl⟩)))))
        · rw [if_pos (by simpa using h4)]
          cases s <;> cases s'
          · exact absurd rfl h4
          · exact .inr (.inr (.inr (.inr (.inl ⟨rfl, rfl, h3', rfl, rfl, rfl⟩))))
          · exact .inr (.inr (.inr (.inl ⟨rfl, rfl, h3', rfl, rfl, rfl⟩)))
          · exact absurd rfl h4
set_option maxHeartbeats 1600000 in
set_option maxRecDepth 100000 in
theorem les_ (p q : Px) (hp : p.ok) (hq : q.ok) : Calls Tryz.prog 38 #[pxV p, pxV q] w fun e w' => e = .returned (.bool (ltP p q)) ∧ Fr N0 w w' := by
  obtain ⟨⟨s, h, l⟩, m⟩ := p
  obtain ⟨⟨s', h', l'⟩, m'⟩ := q
  have c14 : ∀ (w : World) {b : Bool}, validP ⟨⟨s, h, l⟩, m⟩ = b → Calls Tryz.prog 58 #[.agg #[.bool s, .int .u64 (h : Int), .int .u64 (l : Int), .int .i64 m]] w fun e w' => e = .returned (.bool b) ∧ Fr N0 w w' := fun w b hb => hb ▸ val_ (w := w) ⟨⟨s, h, l⟩, m⟩ hp
  have d14 : ∀ (w : World) {b : Bool}, validP ⟨⟨s', h', l'⟩, m'⟩ = b → Calls Tryz.prog 58 #[.agg #[.bool s', .int .u64 (h' : Int), .int .u64 (l' : Int), .int .i64 m']] w fun e w' => e = .returned (.bool b) ∧ Fr N0 w w' := fun w b hb => hb ▸ val_ (w := w) ⟨⟨s', h', l'⟩, m'⟩ hq
  have c44 : ∀ (w : World) {b : Bool}, ltA ⟨s, h, l⟩ ⟨s', h', l'⟩ = b → Calls Tryz.prog 59 #[.agg #[.bool s, .int .u64 (h : Int), .int .u64 (l : Int)], .agg #[.bool s', .int .u64 (h' : Int), .int .u64 (l' : Int)]] w fun e w' => e = .returned (.bool b) ∧ Fr N0 w w' := fun w b hb => hb ▸ ales_ (w := w) ⟨s, h, l⟩ ⟨s', h', l'⟩ hp.ad hq.ad
  obtain ⟨d, hdd⟩ : ∃ d, d = decide ((⟨s, h, l⟩ : Ad) = ⟨s', h', l'⟩) := ⟨_, rfl⟩
  have HDD := Lib.hid hdd
  have E : ∀ W, Sem.run Tryz.prog (binOp .eql 30 (.agg #[.bool s, .int .u64 (h : Int), .int .u64 (l : Int)]) (.agg #[.bool s', .int .u64 (h' : Int), .int .u64 (l' : Int)])) W = .ok (.bool d) W := fun W => by rw [hdd]; exact ad_eql_lit W
  have EG : ∀ X Y W, Sem.run Tryz.prog (eqGuard .eql 30 X Y (.agg #[.bool s, .int .u64 (h : Int), .int .u64 (l : Int)]) (.agg #[.bool s', .int .u64 (h' : Int), .int .u64 (l' : Int)])) W = .ok () W := fun X Y W => ad_guard_lit X Y W
  clear hdd
  have key : ∀ b b' c r, validP ⟨⟨s, h, l⟩, m⟩ = b → validP ⟨⟨s', h', l'⟩, m'⟩ = b' → ltA ⟨s, h, l⟩ ⟨s', h', l'⟩ = c → ltP ⟨⟨s, h, l⟩, m⟩ ⟨⟨s', h', l'⟩, m'⟩ = r → ((b = false ∧ r = false) ∨ (b = true ∧ b' = false ∧ r = false) ∨ (b = true ∧ b' = true ∧ c = true ∧ r = true)
      ∨ (b = true ∧ b' = true ∧ c = false ∧ d = false ∧ r = false) ∨ (b = true ∧ b' = true ∧ c = false ∧ d = true ∧ r = decide (m < m'))) →
      Calls Tryz.prog 38 #[pxV ⟨⟨s, h, l⟩, m⟩, pxV ⟨⟨s', h', l'⟩, m'⟩] w fun e w' => e = .returned (.bool r) ∧ Fr N0 w w' := by
    rintro b b' c r e1 e2 e3 er hc
    have k14 := fun w => c14 w e1
    have q14 := fun w => d14 w e2
    have k44 := fun w => c44 w e3
    clear c14 d14 c44 e1 e2 e3 er
    go_enter Tryz.func38, Tryz.ntmps38
    unfold pxV
    go_wp2_with fail
    have HA1 := Lib.hid ((Blk.new w 32 #[Value.bool s, Value.int .u64 (h : Int), Value.int .u64 (l : Int), Value.int .i64 m]).alloc (.cells #[Value.bool s', Value.int .u64 (h' : Int), Value.int .u64 (l' : Int), Value.int .i64 m'] 32))
    have HA2 := Lib.hid (Blk.alloc2 w (.cells #[Value.bool s, Value.int .u64 (h : Int), Value.int .u64 (l : Int), Value.int .i64 m] 32) 32 #[Value.bool s', Value.int .u64 (h' : Int), Value.int .u64 (l' : Int), Value.int .i64 m'])
    have HF1 := Lib.hid (Fr.alloc (Fr.alloc (Fr.refl N0 w) (.cells #[Value.bool s, Value.int .u64 (h : Int), Value.int .u64 (l : Int), Value.int .i64 m] 32)) (.cells #[Value.bool s', Value.int .u64 (h' : Int), Value.int .u64 (l' : Int), Value.int .i64 m'] 32))
    generalize World.alloc (w.alloc _) _ = w1 at *
    obtain ⟨g2, hg2⟩ : ∃ g2, g2 = w.heap.size + 1 := ⟨_, rfl⟩
    rw [← hg2] at HA2 ⊢
    have HG2 : Hid (w.heap.size ≤ g2) := Lib.hid (by omega)
    obtain ⟨g1, hg1⟩ : ∃ g1, g1 = w.heap.size := ⟨_, rfl⟩
    rw [← hg1] at HA1 ⊢
    have HG1 : Hid (w.heap.size ≤ g1) := Lib.hid (by omega)
    have HN1_2 : Hid (g1 ≠ g2) := Lib.hid (by omega)
    clear hg1 hg2
    have HZ1 : Hid (∀ W, Fr N0 w1 W → Blk W g1 32 #[Value.bool s, Value.int .u64 (h : Int), Value.int .u64 (l : Int), Value.int .i64 m]) := Lib.hid fun W hf => HA1.out.fr hf id
    have HZ2 : Hid (∀ W, Fr N0 w1 W → Blk W g2 32 #[Value.bool s', Value.int .u64 (h' : Int), Value.int .u64 (l' : Int), Value.int .i64 m']) := Lib.hid fun W hf => HA2.out.fr hf id
    have F := Lib.hid (Fr.refl N0 w1)
    obtain ⟨z1_0, z1_1, z1_2, z1_3⟩ := (HZ1.out _ F.out).c4
    obtain ⟨z2_0, z2_1, z2_2, z2_3⟩ := (HZ2.out _ F.out).c4
    rcases hc with ⟨rfl, he⟩ | ⟨rfl, rfl, he⟩ | ⟨rfl, rfl, rfl, he⟩ | ⟨rfl, rfl, rfl, rfl, he⟩ | ⟨rfl, rfl, rfl, rfl, he⟩
    all_goals
      have HE := Lib.hid he
      clear he
      go_wp2_with (first
        | (go_at_call_of 58 l; refine (k14 _).mono ?_; rintro e w2 ⟨rfl, hf⟩; have F := Lib.hid (F.out.trans hf); obtain ⟨z1_0, z1_1, z1_2, z1_3⟩ := (HZ1.out _ F.out).c4; obtain ⟨z2_0, z2_1, z2_2, z2_3⟩ := (HZ2.out _ F.out).c4)
        | (go_at_call_of 58 l'; refine (q14 _).mono ?_; rintro e w2 ⟨rfl, hf⟩; have F := Lib.hid (F.out.trans hf); obtain ⟨z1_0, z1_1, z1_2, z1_3⟩ := (HZ1.out _ F.out).c4; obtain ⟨z2_0, z2_1, z2_2, z2_3⟩ := (HZ2.out _ F.out).c4)
        | (go_at_call 59; refine (k44 _).mono ?_; rintro e w2 ⟨rfl, hf⟩; have F := Lib.hid (F.out.trans hf); obtain ⟨z1_0, z1_1, z1_2, z1_3⟩ := (HZ1.out _ F.out).c4; obtain ⟨z2_0, z2_1, z2_2, z2_3⟩ := (HZ2.out _ F.out).c4))
      go_ret
      exact ⟨retb HE.out.symm, HF1.out.trans F.out⟩
  refine key _ _ _ _ rfl rfl rfl rfl ?_
  have hd := HDD.out
  unfold ltP
  cases h1 : validP ⟨⟨s, h, l⟩, m⟩ with
  | false => exact .inl ⟨rfl, by simp⟩
  | true =>
    cases h2 : validP ⟨⟨s', h', l'⟩, m'⟩ with
    | false => exact .inr (.inl ⟨rfl, rfl, by simp⟩)
    | true =>
      cases h3 : ltA ⟨s, h, l⟩ ⟨s', h', l'⟩ with
      | true => exact .inr (.inr (.inl ⟨rfl, rfl, rfl, by simp⟩))
      | false =>
        cases hdc : d with
        | false =>
          have h4 : ¬ ((⟨s, h, l⟩ : Ad) = ⟨s', h', l'⟩) := of_decide_eq_false (hd.symm.trans hdc)
          exact .inr (.inr (.inr (.inl ⟨rfl, rfl, rfl, rfl, by rw [decide_eq_false h4]; simp⟩)))
        | true =>
          have h4 : (⟨s, h, l⟩ : Ad) = ⟨s', h', l'⟩ := of_decide_eq_true (hd.symm.trans hdc)
          exact .inr (.inr (.inr (.inr ⟨rfl, rfl, rfl, rfl, by simp [h4]⟩)))
end
end Go.Proofs.YtnklbeigikcfkaaGreatDoor.U
