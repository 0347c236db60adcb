/- Words for memory that hold over any program: a block that is known whole, a frame that names the blocks that may have turned. Addresses and prefixes as numbers: plain laws. Blocks of cells, each as many as a power of two, at a multiple of it: plain laws. Prefixes as blocks of numbers: halves, nests, orders. Plain laws. Bits and bytes of addresses; what two have in common. Plain laws. What two addresses have in common, byte by byte; an address out of its bits. Plain laws. Addresses as values: ==, Valid, Less. An argument opened, of whatever shape: what a reading says of the cells that it met. addr.Valid, the widths, first: what they answer. cut. A region that draws its order, whose operations only read what nobody writes, and whose callees may make memory: walked once, in the order of the text (the kit's lexical walk at a class of worlds of my own: all those that differ from one by new blocks alone). prefix.Valid. prefix.Of, prefix.Bit. prefix.Holds, prefix.Covers. addr.Less, prefix.Less. prefix.Halves. A slice that is the call's own, its value written out; what an append of one element leaves. addr.Bytes. -/
import Derived.WalkKit
import Derived.WalkSpells
import Derived.WalkLawsBesides
import Derived.Lib.Hide
import Derived.Deep.Draws
import Derived.Deep.QuietTactic
import Derived.BigQuiet
import Derived.Laws.MakeOwn
import Derived.Lib.ItoaNum
import Derived.Test.YtejddfgmfdpnfaaDoorProg
import Derived.Laws.StructEq
import Derived.ProofKit
import Derived.OpenShut
import Derived.Deep.Slices
import Derived.Deep.Fields
import Derived.IntWalk
import Derived.Deep.RegionWith
import Derived.Carry
import Derived.Laws.Rows
import Derived.Laws.ResultCell
import Derived.Laws.Bits64b
import Derived.Maps.AppendAt
import Derived.Deep.AppendLies
import Derived.Deep.DeepCutAuto
import Derived.Deep.CutBlock
import Derived.OwnWalk
namespace Go.Proofs.YtejddfgmfdpnfaaDoor
open Go.RowKit

/-- Block g is just the cells cs of element type t, none frozen. -/
def Blk (w : World) (g : Nat) (t : TypeId) (cs : Array Value) : Prop := w.heap[g]? = some (.cells cs t (0, 0))

/-- Only the blocks of S (and new ones) may have turned. -/
structure Fr (S : Nat → Prop) (w w' : World) : Prop where
  os : w'.os = w.os
  tape : w'.tape = w.tape
  output : w'.output = w.output
  size : w.heap.size ≤ w'.heap.size
  block : ∀ k, k < w.heap.size → ¬ S k → w'.heap[k]? = w.heap[k]?

section
variable {w w' : World} {g : Nat} {t : TypeId} {cs : Array Value} {S S' : Nat → Prop}
theorem Blk.lt (h : Blk w g t cs) : g < w.heap.size := by
  rcases Nat.lt_or_ge g w.heap.size with hlt | hge
  · exact hlt
  · unfold Blk at h; rw [Array.getElem?_eq_none hge] at h; cases h
theorem Blk.cell (h : Blk w g t cs) (i : Nat) : w.cell? ⟨g, i, none⟩ = cs[i]? := cell_of_row w g i cs t (0, 0) h
theorem Blk.frozen (h : Blk w g t cs) (i : Nat) : w.frozen? ⟨g, i, none⟩ = false := by
  unfold Blk at h
  simp [World.frozen?, h]
theorem Blk.new (w : World) (t : TypeId) (cs : Array Value) : Blk (w.alloc (.cells cs t)) w.heap.size t cs := heap_alloc_new w _
theorem Blk.drew (h : Blk w g t cs) : Blk w.drew g t cs := h
theorem Blk.drewN (h : Blk w g t cs) (n : Nat) : Blk (w.drewN n) g t cs := h
theorem Blk.alloc (h : Blk w g t cs) (o : Obj) : Blk (w.alloc o) g t cs := (Below.heap_alloc w o g h.lt).trans h
theorem Blk.set_ (h : Blk w g t cs) (i : Nat) (u : Value) : Blk (w.setCell ⟨g, i, none⟩ u) g t (cs.setIfInBounds i u) := by
  unfold Blk at h ⊢
  simp [World.setCell, Array.getElem?_modify, h]
theorem Blk.far (h : Blk w g t cs) {p : Addr} (hp : g ≠ p.block) (u : Value) : Blk (w.setCell p u) g t cs := (Below.heap_setCell w p u g hp).trans h
theorem Blk.below {B : Nat} (h : Blk w g t cs) (hb : Below B w w') (hg : g < B) : Blk w' g t cs := (hb.block g hg).trans h
theorem Blk.grown {row : Option Nat} (h : Blk w g t cs) (hb : w.grownBy w' row) (hg : some g ≠ row) : Blk w' g t cs := (hb.block g h.lt hg).trans h
theorem Blk.fr (h : Blk w g t cs) (hb : Fr S w w') (hg : ¬ S g) : Blk w' g t cs := (hb.block g h.lt hg).trans h
theorem Blk.ne_ {g' : Nat} {t' : TypeId} {cs' : Array Value} (h : Blk w g t cs) (h' : Blk w g' t' cs') (hne : t ≠ t') : g ≠ g' := by
  rintro rfl
  unfold Blk at h h'
  rw [h] at h'
  injection h' with h'
  injection h' with _ ht
  exact hne ht
theorem Blk.same {cs' : Array Value} {t' : TypeId} (h : Blk w g t cs) (h' : Blk w g t' cs') : cs = cs' := by
  unfold Blk at h h'
  rw [h] at h'
  injection h' with h'
  injection h' with hc

theorem Fr.refl (S : Nat → Prop) (w : World) : Fr S w w := ⟨rfl, rfl, rfl, Nat.le_refl _, fun _ _ _ => rfl⟩
theorem Fr.trans {a b c : World} (h : Fr S a b) (k : Fr S b c) : Fr S a c :=
  ⟨k.os.trans h.os, k.tape.trans h.tape, k.output.trans h.output, Nat.le_trans h.size k.size, fun i hi hn => (k.block i (Nat.lt_of_lt_of_le hi h.size) hn).trans (h.block i hi hn)⟩
theorem Fr.mono {a b : World} (h : Fr S a b) (hS : ∀ k, k < a.heap.size → S k → S' k) : Fr S' a b :=
  ⟨h.os, h.tape, h.output, h.size, fun i hi hn => h.block i hi (fun hs => hn (hS i hi hs))⟩
theorem Fr.drew {a w : World} (h : Fr S a w) : Fr S a w.drew := ⟨h.os, h.tape, h.output, h.size, h.block⟩
theorem Fr.drewN {a w : World} (h : Fr S a w) (n : Nat) : Fr S a (w.drewN n) := ⟨h.os, h.tape, h.output, h.size, h.block⟩
theorem Fr.alloc {a w : World} (h : Fr S a w) (o : Obj) : Fr S a (w.alloc o) :=
  ⟨h.os, h.tape, h.output, Nat.le_trans h.size (by simp), fun i hi hn => (Below.heap_alloc w o i (Nat.lt_of_lt_of_le hi h.size)).trans (h.block i hi hn)⟩
theorem Fr.setCell {a w : World} (h : Fr S a w) {p : Addr} (hp : S p.block ∨ a.heap.size ≤ p.block) (u : Value) : Fr S a (w.setCell p u) :=
  ⟨h.os, h.tape, h.output, by simpa [World.setCell] using h.size, fun i hi hn => (Below.heap_setCell w p u i (by
    rintro rfl
    rcases hp with hp | hp
    · exact hn hp
    · omega)).trans (h.block i hi hn)⟩
/-- A step within a step: what the inner one may turn is allowed outside, or is new. -/
theorem Fr.step {a w w' : World} (h : Fr S a w) (k : Fr S' w w') (hS : ∀ i, S' i → S i ∨ a.heap.size ≤ i) : Fr S a w' :=
  ⟨k.os.trans h.os, k.tape.trans h.tape, k.output.trans h.output, Nat.le_trans h.size k.size, fun i hi hn =>
    (k.block i (Nat.lt_of_lt_of_le hi h.size) (fun hs => (hS i hs).elim hn (fun hge => by omega))).trans (h.block i hi hn)⟩
theorem Fr.grown {a w w' : World} {row : Option Nat} (h : Fr S a w) (k : w.grownBy w' row) (hr : ∀ i, row = some i → S i ∨ a.heap.size ≤ i) : Fr S a w' :=
  ⟨k.os.trans h.os, k.tape.trans h.tape, k.output.trans h.output, Nat.le_trans h.size k.size, fun i hi hn =>
    (k.block i (Nat.lt_of_lt_of_le hi h.size) (fun hs => (hr i hs.symm).elim hn (fun hge => by omega))).trans (h.block i hi hn)⟩
theorem Fr.of_below {a w : World} (h : Below a.heap.size a w) : Fr S a w := ⟨h.os, h.tape, h.output, h.size, fun i hi _ => h.block i hi⟩
theorem Fr.below {a w : World} {B : Nat} (h : Fr S a w) (hB : B ≤ a.heap.size) (hS : ∀ i, i < a.heap.size → S i → B ≤ i) : Below B a w :=
  ⟨h.os, h.tape, h.output, h.size, fun i hi => h.block i (by omega) (fun hs => by have := hS i (by omega) hs; omega)⟩
theorem below_fr {a w w' : World} {B : Nat} (h : Below B a w) (k : Fr S w w') (hB : B ≤ w.heap.size) (hS : ∀ i, S i → B ≤ i) : Below B a w' :=
  h.trans (k.below hB (fun i _ hi => hS i hi))
theorem Fr.cell {a w : World} (h : Fr S a w) {p : Addr} (hp : p.block < a.heap.size) (hn : ¬ S p.block) : w.cell? p = a.cell? p := World.cell?_of_block (w := a) (h.block p.block hp hn)
theorem Fr.frozen {a w : World} (h : Fr S a w) {p : Addr} (hp : p.block < a.heap.size) (hn : ¬ S p.block) : w.frozen? p = a.frozen? p := World.frozen?_of_block (w := a) (h.block p.block hp hn)
end

/-- A quiet call in a region that begins in a world which has drawn already. -/
theorem quiet_add {P : Program} {f : FuncId} {args : Array Value} {w : World} {a n : Nat} {v : Value}
    (h : Calls P f args (w.drewN (a + n)) fun e w' => e = .returned v ∧ ∃ m, w' = (w.drewN (a + n)).drewN m) :
    Calls P f args (w.drewN (a + n)) fun e w'' => e = .returned v ∧ ∃ m, w'' = w.drewN (a + m) :=
  h.mono fun _ _ ⟨he, m, hm⟩ => ⟨he, n + m, by rw [hm, World.drewN_drewN, Nat.add_assoc]⟩
theorem quiet_add_same {P : Program} {f : FuncId} {args : Array Value} {w : World} {a n : Nat} {v : Value}
    (h : Calls P f args (w.drewN (a + n)) fun e w' => e = .returned v ∧ w' = w.drewN (a + n)) :
    Calls P f args (w.drewN (a + n)) fun e w'' => e = .returned v ∧ ∃ m, w'' = w.drewN (a + m) :=
  h.mono fun _ _ ⟨he, hm⟩ => ⟨he, n, hm⟩
theorem left_same {P : Program} {f : FuncId} {args : Array Value} {w : World} {v : Value}
    (h : Calls P f args w fun e w' => e = .returned v ∧ w = w') : Calls P f args w fun e w' => e = .returned v ∧ w' = w :=
  h.mono fun _ _ ⟨he, hm⟩ => ⟨he, hm.symm⟩
/-- make([]T, n) at a length that is a variable: the new block, written out. -/
theorem run_make_rowN {P : Program} (t e : TypeId) (i : TypeInfo) (z : Value) (ht : P.underlying t = some (.slice e)) (hi : P.info? e = some i) (hz : i.zero = some z)
    (kl kc : IntKind) (n c : Nat) (hnc : n ≤ c) (hbytes : i.bytes * c ≤ 281474976710656) (h63 : c ≤ 9223372036854775807) (w : World) :
    (Instr.makeSlice t (.int kl (n : Int)) (.int kc (c : Int))).run P w = .ok (.slice (some ⟨w.heap.size, 0, none⟩) n c) (w.alloc (.cells (madeCells z.cells (c * i.size)) e)) := by
  have hb : (i.bytes : Int) * (c : Int) ≤ 281474976710656 := by
    have h : ((i.bytes * c : Nat) : Int) ≤ 281474976710656 := by omega
    rwa [Int.natCast_mul] at h
  have hr := run_make (P := P) w t e i z ht hi hz kl kc n c (by omega) (by omega) hb (by omega)
  simp only [Int.toNat_natCast] at hr
  exact hr
/-- '&' of any int and a mask. -/
theorem i64_mask (a : Int) (k : Nat) (hk : k ≤ 62) : bits .and .i64 a (((2 ^ k : Nat) : Int) - 1) = a % ((2 ^ k : Nat) : Int) := by
  have h1 : 1 ≤ 2 ^ k := Nat.one_le_two_pow
  have h2 : 2 ^ k ≤ 2 ^ 62 := Nat.pow_le_pow_right (by omega) hk
  have hd : (2 ^ k) ∣ 2 ^ 64 := Nat.pow_dvd_pow 2 (by omega)
  have e : (((2 ^ k : Nat) : Int) - 1) = ((2 ^ k - 1 : Nat) : Int) := by omega
  rw [e]
  show IntKind.i64.wrap ((BitVec.ofInt 64 a &&& BitVec.ofInt 64 ((2 ^ k - 1 : Nat) : Int)).toNat : Int) = _
  rw [BitVec.toNat_and, BitVec.ofInt_natCast, BitVec.toNat_ofNat, Nat.mod_eq_of_lt (by omega : 2 ^ k - 1 < 2 ^ 64), Nat.and_two_pow_sub_one_eq_mod, BitVec.toNat_ofInt, IntKind.wrap_i64]
  have h3 : (((a % ((2 ^ 64 : Nat) : Int)).toNat % 2 ^ k : Nat) : Int) = a % ((2 ^ k : Nat) : Int) := by
    rw [Int.natCast_emod, Int.toNat_of_nonneg (Int.emod_nonneg _ (by omega))]
    exact Int.emod_emod_of_dvd a (Int.natCast_dvd_natCast.2 hd)
  rw [h3]
  have h4 : 0 ≤ a % ((2 ^ k : Nat) : Int) := Int.emod_nonneg _ (by omega)
  have h5 : a % ((2 ^ k : Nat) : Int) < ((2 ^ k : Nat) : Int) := Int.emod_lt_of_pos _ (by omega)
  omega
theorem i64_and7 (a : Int) : bits .and .i64 a 7 = a % 8 := i64_mask a 3 (by omega)
theorem i64_and3 (a : Int) : bits .and .i64 a 3 = a % 4 := i64_mask a 2 (by omega)
theorem i64_and1023 (a : Int) : bits .and .i64 a 1023 = a % 1024 := i64_mask a 10 (by omega)
theorem ret_eq {k : IntKind} {a b : Int} (h : a = b) : Ending.returned (.int k a) = .returned (.int k b) := by rw [h]

end Go.Proofs.YtejddfgmfdpnfaaDoor
namespace Go.Proofs.YtejddfgmfdpnfaaDoor

/-- An address: its family, its two halves. -/
structure Ad where
  six : Bool
  hi : Nat
  lo : Nat
deriving DecidableEq
def Ad.ok (a : Ad) : Prop := a.hi < 18446744073709551616 ∧ a.lo < 18446744073709551616
def validA (a : Ad) : Bool := a.six || (decide (a.hi = 0) && decide (a.lo < 4294967296))
def ltA (a b : Ad) : Bool :=
  if validA a = false ∨ validA b = false ∨ a = b then false else if a.six ≠ b.six then b.six else if a.hi ≠ b.hi then decide (a.hi < b.hi) else decide (a.lo < b.lo)
def widthA (a : Ad) : Nat := if a.six = true then 128 else 32
/-- The number that an address is. -/
def num (a : Ad) : Nat := if a.six = true then a.hi * 18446744073709551616 + a.lo else a.lo
theorem num_lt {a : Ad} (ho : a.ok) (hv : validA a = true) : num a < 2 ^ widthA a := by
  obtain ⟨h1, h2⟩ := ho
  unfold num widthA validA at *
  cases hs : a.six with
  | true => rw [if_pos rfl, if_pos rfl]; have : (2 : Nat) ^ 128 = 340282366920938463463374607431768211456 := by decide
            omega
  | false => rw [hs] at hv; simp at hv; rw [if_neg (by simp), if_neg (by simp)]; exact hv.2
theorem num_inj {a b : Ad} (ha : a.ok) (hb : b.ok) (va : validA a = true) (vb : validA b = true) (hs : a.six = b.six) (h : num a = num b) : a = b := by
  obtain ⟨s1, h1, l1⟩ := a
  obtain ⟨s2, h2, l2⟩ := b
  unfold num validA Ad.ok at *
  simp only at *
  subst hs
  cases s1 with
  | true => simp at h; rw [Ad.mk.injEq]; exact ⟨rfl, by omega, by omega⟩
  | false => simp at h va vb; rw [Ad.mk.injEq]; exact ⟨rfl, by omega, by omega⟩
/-- A number of so many bits with all but its first ones 0. -/
def first (n : Nat) (many : Int) (all : Nat) : Nat := n / 2 ^ (all - (min (max many 0) all).toNat) * 2 ^ (all - (min (max many 0) all).toNat)
def cutA (a : Ad) (many : Int) : Ad := if a.six = true then ⟨true, first a.hi many 64, first a.lo (many - 64) 64⟩ else ⟨false, 0, first a.lo many 32⟩
theorem first_nat (n m all : Nat) (h : m ≤ all) : first n (m : Int) all = n / 2 ^ (all - m) * 2 ^ (all - m) := by
  unfold first
  rw [show (min (max (m : Int) 0) all).toNat = m by omega]
theorem first_le (n : Nat) (m : Int) (all : Nat) : first n m all ≤ n := Nat.div_mul_le_self _ _
theorem cut_ok {a : Ad} (ho : a.ok) (m : Int) : (cutA a m).ok := by
  obtain ⟨h1, h2⟩ := ho
  have f1 := first_le a.hi m 64
  have f2 := first_le a.lo (m - 64) 64
  have f3 := first_le a.lo m 32
  unfold cutA Ad.ok
  cases a.six <;> simp <;> omega
theorem cut_six (a : Ad) (m : Int) : (cutA a m).six = a.six := by unfold cutA; cases h : a.six <;> simp
theorem cut_valid {a : Ad} (hv : validA a = true) (m : Int) : validA (cutA a m) = true := by
  have f3 := first_le a.lo m 32
  unfold cutA validA at *
  cases h : a.six with
  | true => simp
  | false => rw [h] at hv; simp at hv ⊢; omega
theorem p64 : (18446744073709551616 : Nat) = 2 ^ 64 := by decide
theorem cut_num {a : Ad} (ho : a.ok) {m : Nat} (hm : m ≤ widthA a) : num (cutA a m) = num a / 2 ^ (widthA a - m) * 2 ^ (widthA a - m) := by
  obtain ⟨h1, h2⟩ := ho
  unfold cutA num widthA at *
  cases hs : a.six with
  | false =>
    rw [hs] at hm
    simp only [Bool.false_eq_true, if_false] at hm ⊢
    exact first_nat _ _ _ hm
  | true =>
    rw [hs] at hm
    simp only [if_true] at hm ⊢
    rcases Nat.lt_or_ge 64 m with h | h
    · rw [show ((m : Int) - 64) = ((m - 64 : Nat) : Int) by omega, first_nat a.lo _ _ (by omega)]
      have e1 : first a.hi (m : Int) 64 = a.hi := by
        unfold first
        rw [show (64 - (min (max (m : Int) 0) ((64 : Nat) : Int)).toNat) = 0 by omega]; simp
      rw [e1, show 64 - (m - 64) = 128 - m by omega]
      obtain ⟨q, hq⟩ : ∃ q, 2 ^ 64 = 2 ^ (128 - m) * q := ⟨2 ^ (64 - (128 - m)), by rw [← Nat.pow_add]; congr 1; omega⟩
      have hp : 0 < 2 ^ (128 - m) := Nat.two_pow_pos _
      rw [p64, hq, show a.hi * (2 ^ (128 - m) * q) = 2 ^ (128 - m) * (a.hi * q) by rw [← Nat.mul_assoc, Nat.mul_comm a.hi, Nat.mul_assoc], Nat.mul_add_div hp, Nat.add_mul, Nat.mul_comm (a.hi * q)]
    · rw [first_nat a.hi m 64 h]
      have e1 : first a.lo ((m : Int) - 64) 64 = 0 := by
        unfold first
        rw [show (64 - (min (max ((m : Int) - 64) 0) ((64 : Nat) : Int)).toNat) = 64 by omega, Nat.div_eq_of_lt (by rw [← p64]; exact h2), Nat.zero_mul]
      rw [e1, Nat.add_zero]
      have e2 : 2 ^ (128 - m) = 2 ^ 64 * 2 ^ (64 - m) := by rw [← Nat.pow_add]; congr 1; omega
      have e3 : a.lo / 2 ^ 64 = 0 := Nat.div_eq_of_lt (by rw [← p64]; exact h2)
      rw [e2, p64, ← Nat.div_div_eq_div_mul, Nat.mul_comm a.hi, Nat.mul_add_div (Nat.two_pow_pos 64), e3, Nat.add_zero, Nat.mul_assoc, Nat.mul_comm (2 ^ 64) (2 ^ (64 - m))]
/-- A prefix. -/
structure Px where
  ad : Ad
  bits : Int
deriving DecidableEq
def validP (p : Px) : Bool := validA p.ad && decide (0 ≤ p.bits) && decide (p.bits ≤ widthA p.ad) && decide (cutA p.ad p.bits = p.ad)
def holdsP (p : Px) (a : Ad) : Bool := validP p && validA a && decide (p.ad.six = a.six) && decide (cutA a p.bits = p.ad)
def coversP (p q : Px) : Bool := validP q && decide (p.bits ≤ q.bits) && holdsP p q.ad
def ltP (p q : Px) : Bool := validP p && validP q && (ltA p.ad q.ad || (decide (p.ad = q.ad) && decide (p.bits < q.bits)))
def bitA (a : Ad) (i : Int) : Nat :=
  if validA a = false ∨ i < 0 ∨ (widthA a : Int) ≤ i then 0 else if a.six = false then a.lo / 2 ^ (31 - i.toNat) % 2 else if i < 64 then a.hi / 2 ^ (63 - i.toNat) % 2 else a.lo / 2 ^ (127 - i.toNat) % 2
/-- How many bits are free in it. -/
def Px.j (p : Px) : Nat := widthA p.ad - p.bits.toNat
theorem validP_iff {p : Px} (ho : p.ad.ok) : validP p = true ↔ validA p.ad = true ∧ 0 ≤ p.bits ∧ p.bits ≤ widthA p.ad ∧ 2 ^ p.j ∣ num p.ad := by
  unfold validP
  simp only [Bool.and_eq_true, decide_eq_true_eq, and_assoc]
  constructor
  · rintro ⟨h1, h2, h3, h4⟩
    refine ⟨h1, h2, h3, ?_⟩
    have h5 := cut_num ho (m := p.bits.toNat) (by omega)
    rw [show ((p.bits.toNat : Nat) : Int) = p.bits by omega, h4] at h5
    exact ⟨_, h5.trans (Nat.mul_comm _ _)⟩
  · rintro ⟨h1, h2, h3, h4⟩
    refine ⟨h1, h2, h3, num_inj (cut_ok ho _) ho (cut_valid h1 _) h1 (cut_six _ _) ?_⟩
    have h5 := cut_num ho (m := p.bits.toNat) (by omega)
    rw [show ((p.bits.toNat : Nat) : Int) = p.bits by omega] at h5
    rw [h5]
    exact Nat.div_mul_cancel h4
theorem in_block {x y j : Nat} (hd : 2 ^ j ∣ x) : y / 2 ^ j * 2 ^ j = x ↔ x ≤ y ∧ y < x + 2 ^ j := by
  obtain ⟨u, rfl⟩ := hd
  have hp : 0 < 2 ^ j := Nat.two_pow_pos j
  have h1 := Nat.div_add_mod y (2 ^ j)
  have h2 := Nat.mod_lt y hp
  constructor
  · intro h
    rw [Nat.mul_comm (y / 2 ^ j)] at h
    omega
  · rintro ⟨h3, h4⟩
    have : y / 2 ^ j = u := by
      rw [Nat.div_eq_iff hp]
      rw [Nat.mul_comm] at h3 h4
      omega
    rw [this, Nat.mul_comm]
theorem holdsP_iff {p : Px} {a : Ad} (hp : p.ad.ok) (ha : a.ok) : holdsP p a = true ↔ validP p = true ∧ validA a = true ∧ p.ad.six = a.six ∧ num p.ad ≤ num a ∧ num a < num p.ad + 2 ^ p.j := by
  unfold holdsP
  simp only [Bool.and_eq_true, decide_eq_true_eq, and_assoc]
  constructor
  · rintro ⟨h1, h2, h3, h4⟩
    refine ⟨h1, h2, h3, ?_⟩
    obtain ⟨k1, k2, k3, k4⟩ := (validP_iff hp).1 h1
    have hw : widthA a = widthA p.ad := by unfold widthA; rw [h3]
    rw [← in_block k4]
    have h5 := cut_num ha (m := p.bits.toNat) (by omega)
    rw [show ((p.bits.toNat : Nat) : Int) = p.bits by omega, h4, hw] at h5
    exact h5.symm
  · rintro ⟨h1, h2, h3, h4⟩
    obtain ⟨k1, k2, k3, k4⟩ := (validP_iff hp).1 h1
    have hw : widthA a = widthA p.ad := by unfold widthA; rw [h3]
    refine ⟨h1, h2, h3, num_inj (cut_ok ha _) hp (cut_valid h2 _) k1 ((cut_six _ _).trans h3.symm) ?_⟩
    have h5 := cut_num ha (m := p.bits.toNat) (by omega)
    rw [show ((p.bits.toNat : Nat) : Int) = p.bits by omega, hw] at h5
    rw [h5]
    exact (in_block k4).2 h4
end Go.Proofs.YtejddfgmfdpnfaaDoor
namespace Go.Proofs.YtejddfgmfdpnfaaDoor

/-- The block of order j at x begins at a multiple of its size. -/
def Dy (x j : Nat) : Prop := 2 ^ j ∣ x
/-- The second lies in the first. -/
def In (x j a o : Nat) : Prop := x ≤ a ∧ a + 2 ^ o ≤ x + 2 ^ j
/-- They share no cell. -/
def Dis (x j a o : Nat) : Prop := x + 2 ^ j ≤ a ∨ a + 2 ^ o ≤ x
def par (x j : Nat) : Nat := x / 2 ^ (j + 1) * 2 ^ (j + 1)

theorem p2 (j : Nat) : 0 < 2 ^ j := Nat.two_pow_pos j
theorem p2s (j : Nat) : 2 ^ (j + 1) = 2 * 2 ^ j := by rw [Nat.pow_succ]; omega
theorem p2le {i j : Nat} (h : i ≤ j) : 2 ^ i ≤ 2 ^ j := Nat.pow_le_pow_right (by omega) h
theorem Dy.zero (j : Nat) : Dy 0 j := Nat.dvd_zero _
theorem Dy.le {x i j : Nat} (h : Dy x j) (hij : i ≤ j) : Dy x i := Nat.dvd_trans (Nat.pow_dvd_pow 2 hij) h
theorem Dis.symm {x j a o : Nat} (h : Dis x j a o) : Dis a o x j := by unfold Dis at *; omega
theorem Dis.not_in {x j a o : Nat} (h : Dis x j a o) : ¬ In x j a o := by
  have := p2 j
  have := p2 o
  unfold Dis at h
  unfold In
  omega
theorem In.trans {x j y i z k : Nat} (h : In x j y i) (h' : In y i z k) : In x j z k := by unfold In at *; omega
theorem In.refl (x j : Nat) : In x j x j := ⟨Nat.le_refl _, Nat.le_refl _⟩
theorem Dis.of_in {x j a o b i : Nat} (h : Dis x j a o) (h' : In a o b i) : Dis x j b i := by unfold Dis In at *; omega
theorem Dis.of_in2 {x j a o b i : Nat} (h : Dis x j a o) (h' : In x j b i) : Dis b i a o := by unfold Dis In at *; omega
theorem In.ord {x j a o : Nat} (h : In x j a o) : 2 ^ o ≤ 2 ^ j := by unfold In at h; omega
theorem ord_le {o j : Nat} (h : 2 ^ o ≤ 2 ^ j) : o ≤ j := (Nat.pow_le_pow_iff_right (by omega)).1 h
theorem In.le {x j a o : Nat} (h : In x j a o) : o ≤ j := ord_le h.ord
/-- Of two blocks the lesser lies in the greater, or they share no cell. -/
theorem dy_cases {x j a o : Nat} (hx : Dy x j) (ha : Dy a o) (ho : o ≤ j) : In x j a o ∨ Dis x j a o := by
  obtain ⟨u, rfl⟩ := hx
  obtain ⟨v, rfl⟩ := ha
  obtain ⟨m, hm⟩ : ∃ m, 2 ^ j = 2 ^ o * m := ⟨2 ^ (j - o), by rw [← Nat.pow_add]; congr 1; omega⟩
  have hp := p2 o
  unfold In Dis
  rw [hm]
  have e1 : 2 ^ o * m * u = 2 ^ o * (m * u) := Nat.mul_assoc _ _ _
  rw [e1]
  rcases Nat.lt_or_ge v (m * u) with h | h
  · right; right
    have := Nat.mul_le_mul_left (2 ^ o) (show v + 1 ≤ m * u by omega)
    rw [Nat.mul_add] at this
    omega
  · rcases Nat.lt_or_ge v (m * u + m) with h2 | h2
    · left
      have a1 := Nat.mul_le_mul_left (2 ^ o) h
      have a2 := Nat.mul_le_mul_left (2 ^ o) (show v + 1 ≤ m * u + m by omega)
      rw [Nat.mul_add, Nat.mul_add] at a2
      omega
    · right; left
      have a1 := Nat.mul_le_mul_left (2 ^ o) h2
      rw [Nat.mul_add] at a1
      omega
theorem par_dy (x j : Nat) : Dy (par x j) (j + 1) := ⟨x / 2 ^ (j + 1), by unfold par; rw [Nat.mul_comm]⟩
theorem par_in {x j : Nat} (hx : Dy x j) : In (par x j) (j + 1) x j := by
  rcases dy_cases (par_dy x j) hx (Nat.le_succ j) with h | h
  · exact h
  · exfalso
    have h1 := Nat.div_add_mod x (2 ^ (j + 1))
    have h2 := Nat.mod_lt x (p2 (j + 1))
    have hp := p2 j
    rw [Nat.mul_comm] at h1
    unfold Dis par at h
    omega
/-- Whatever is greater than a block and has it has its parent. -/
theorem sub_par {x j y i : Nat} (hx : Dy x j) (hy : Dy y i) (hji : j < i) (h : In y i x j) : In y i (par x j) (j + 1) := by
  rcases dy_cases hy (par_dy x j) hji with h1 | h1
  · exact h1
  · exact absurd h (h1.of_in (par_in hx)).not_in
/-- A block is the lower or the upper half of its parent. -/
theorem par_half {x j : Nat} (hx : Dy x j) : x = par x j ∨ x = par x j + 2 ^ j := by
  obtain ⟨h1, h2⟩ := par_in hx
  obtain ⟨u, hu⟩ := hx
  obtain ⟨v, hv⟩ := par_dy x j
  rw [p2s] at h2 hv
  have hp := p2 j
  rw [hv] at h1 h2 ⊢
  have e : 2 * 2 ^ j * v = 2 ^ j * (2 * v) := by rw [Nat.mul_comm 2, Nat.mul_assoc]
  rw [e] at h1 h2 ⊢
  rw [hu] at h1 h2 ⊢
  have h3 : 2 * v ≤ u := Nat.le_of_mul_le_mul_left h1 hp
  have h4 : u ≤ 2 * v + 1 := by
    rcases Nat.lt_or_ge (2 * v + 1) u with h5 | h5
    · have := Nat.mul_le_mul_left (2 ^ j) (show 2 * v + 1 + 1 ≤ u from h5)
      rw [Nat.mul_add, Nat.mul_add] at this
      omega
    · exact h5
  rcases Nat.lt_or_ge u (2 * v + 1) with h5 | h5
  · left; congr 1; omega
  · right
    have : u = 2 * v + 1 := by omega
    rw [this, Nat.mul_add]
    omega

/-! ### what is free -/
abbrev Tk := List (Nat × Nat)
def clr (T : Tk) (x j : Nat) : Prop := ∀ p, p ∈ T → Dis x j p.1 p.2
def Frb (n : Nat) (T : Tk) (j x : Nat) : Prop := j ≤ n ∧ Dy x j ∧ x + 2 ^ j ≤ 2 ^ n ∧ clr T x j ∧ (j = n ∨ ¬ clr T (par x j) (j + 1))
structure TOk (n : Nat) (T : Tk) : Prop where
  dy : ∀ p, p ∈ T → Dy p.1 p.2 ∧ p.2 ≤ n ∧ p.1 + 2 ^ p.2 ≤ 2 ^ n
  dis : T.Pairwise fun p q => Dis p.1 p.2 q.1 q.2
theorem clr_in {T : Tk} {x j y i : Nat} (h : clr T x j) (hi : In x j y i) : clr T y i := fun p hp => (h p hp).of_in2 hi
/-- Whoever is free is the greatest that is clear. -/
theorem Frb.great {n : Nat} {T : Tk} {j x y i : Nat} (h : Frb n T j x) (hy : Dy y i) (hyn : y + 2 ^ i ≤ 2 ^ n) (hji : j < i) (hin : In y i x j) : ¬ clr T y i := by
  intro hc
  rcases h.2.2.2.2 with rfl | h1
  · have := ord_le (show 2 ^ i ≤ 2 ^ j by omega)
    omega
  · exact h1 (clr_in hc (sub_par h.2.1 hy hji hin))
/-- The rows of free blocks, by their orders. -/
def FreeIs (n : Nat) (T : Tk) (f : Nat → List Nat) : Prop := ∀ j, j ≤ n → (f j).Pairwise (· < ·) ∧ ∀ x, x ∈ f j ↔ Frb n T j x

/-- One is taken: it is the first of the order k; the rest of it is free. -/
def take' (f : Nat → List Nat) (a o k : Nat) : Nat → List Nat := fun j => if j = k then (f k).tail else if o ≤ j ∧ j < k then [a + 2 ^ j] else f j
theorem par_le {n x j : Nat} (hx : Dy x j) (hj : j < n) (hn : x + 2 ^ j ≤ 2 ^ n) : par x j + 2 ^ (j + 1) ≤ 2 ^ n := by
  have hz : Dy 0 n := Dy.zero n
  have h0 : In 0 n x j := ⟨Nat.zero_le _, by omega⟩
  have := (sub_par hx hz hj h0).2
  omega
theorem take_free {n : Nat} {T : Tk} {f : Nat → List Nat} (hf : FreeIs n T f) {a o k : Nat} (hok : o ≤ k) (hkn : k ≤ n) (hempty : ∀ j, o ≤ j → j < k → f j = []) {r : List Nat} (hk : f k = a :: r) :
    FreeIs n (T ++ [(a, o)]) (take' f a o k) ∧ Dy a o ∧ a + 2 ^ o ≤ 2 ^ n ∧ clr T a o := by
  have hfa : Frb n T k a := ((hf k hkn).2 a).1 (by rw [hk]; simp)
  obtain ⟨_, hda, han, hca, _⟩ := hfa
  have hinO : In a k a o := ⟨Nat.le_refl _, by have := p2le hok; omega⟩
  have hdo : Dy a o := hda.le hok
  have hclr : ∀ x j, clr (T ++ [(a, o)]) x j ↔ clr T x j ∧ Dis x j a o := by
    intro x j
    unfold clr
    constructor
    · intro h
      exact ⟨fun p hp => h p (List.mem_append_left _ hp), h (a, o) (by simp)⟩
    · rintro ⟨h1, h2⟩ p hp
      rcases List.mem_append.1 hp with h3 | h3
      · exact h1 p h3
      · rw [List.mem_singleton] at h3; subst h3; exact h2
  refine ⟨fun j hj => ⟨?_, fun x => ?_⟩, hdo, by have := p2le hok; omega, clr_in hca hinO⟩
  · unfold take'
    split
    · have := (hf k hkn).1
      rw [hk] at this ⊢
      exact (List.pairwise_cons.1 this).2
    · split
      · simp
      · exact (hf j hj).1
  · -- membership
    by_cases hdx : Dy x j ∧ x + 2 ^ j ≤ 2 ^ n
    · obtain ⟨hdx, hxn⟩ := hdx
      rcases Nat.lt_or_ge j k with hjk | hjk
      · -- a lesser one
        rcases dy_cases hda hdx (Nat.le_of_lt hjk) with hin | hdis
        · -- it lies in the block that was taken apart
          have hparin : In a k (par x j) (j + 1) := sub_par hdx hda hjk hin
          have hnf : x ∉ f j := fun h => by
            have h1 := ((hf j hj).2 x).1 h
            exact h1.great hda han hjk hin hca
          have hmem : x ∈ take' f a o k j ↔ o ≤ j ∧ x = a + 2 ^ j := by
            unfold take'
            rw [if_neg (by omega)]
            by_cases hoj : o ≤ j
            · rw [if_pos ⟨hoj, hjk⟩]; simp [hoj]
            · rw [if_neg (by omega)]
              constructor
              · intro h; exact absurd h hnf
              · intro h; omega
          rw [hmem]
          constructor
          · rintro ⟨hoj, rfl⟩
            have hp := p2 j
            have hpo := p2le hoj
            refine ⟨hj, hdx, hxn, (hclr _ _).2 ⟨clr_in hca hin, .inr (by omega)⟩, .inr fun hc => ?_⟩
            have hd := ((hclr _ _).1 hc).2
            have hpe : par (a + 2 ^ j) j = a := by
              rcases par_half hdx with h1 | h1
              · exfalso
                have h2 := par_in hdx
                rw [← h1] at h2
                have h3 : Dy (a + 2 ^ j) (j + 1) := h1 ▸ par_dy _ _
                have h4 : Dy a (j + 1) := hda.le hjk
                have h5 : 2 ^ (j + 1) ∣ 2 ^ j := (Nat.dvd_add_right h4).1 h3
                have := Nat.le_of_dvd hp h5
                rw [p2s] at this
                omega
              · omega
            rw [hpe] at hd
            have hps := p2s j
            have := p2 o
            unfold Dis at hd
            omega
          · rintro ⟨_, _, _, hc, hm⟩
            have hd := ((hclr _ _).1 hc).2
            have hm2 : ¬ clr (T ++ [(a, o)]) (par x j) (j + 1) := by
              rcases hm with h | h
              · omega
              · exact h
            have hpc : clr T (par x j) (j + 1) := clr_in hca hparin
            have hnd : ¬ Dis (par x j) (j + 1) a o := fun h => hm2 ((hclr _ _).2 ⟨hpc, h⟩)
            have hoj : o ≤ j := by
              rcases Nat.lt_or_ge j o with h1 | h1
              · exfalso
                rcases dy_cases hdo (par_dy x j) h1 with h2 | h2
                · exact hd.symm.not_in (h2.trans (par_in hdx))
                · exact hnd h2.symm
              · exact h1
            refine ⟨hoj, ?_⟩
            have hpa : par x j = a := by
              rcases dy_cases (par_dy x j) hdo (by omega) with h1 | h1
              · have := hparin.1
                have := h1.1
                omega
              · exact absurd h1 hnd
            rcases par_half hdx with h1 | h1
            · exfalso
              rw [hpa] at h1
              subst h1
              have := p2 j
              have := p2 o
              unfold Dis at hd
              omega
            · rw [hpa] at h1; exact h1
        · -- it lies beside
          have hne : x ≠ a + 2 ^ j := by
            rintro rfl
            have h1 : In a k (a + 2 ^ j) j := ⟨Nat.le_add_right _ _, by have := p2le (show j + 1 ≤ k from hjk); rw [p2s] at this; omega⟩
            exact hdis.not_in h1
          have hmem : x ∈ take' f a o k j ↔ x ∈ f j := by
            unfold take'
            rw [if_neg (by omega)]
            by_cases hoj : o ≤ j
            · rw [if_pos ⟨hoj, hjk⟩, hempty j hoj hjk]; simp [hne]
            · rw [if_neg (by omega)]
          rw [hmem, (hf j hj).2 x]
          have hc : clr (T ++ [(a, o)]) x j ↔ clr T x j := by
            rw [hclr]
            exact ⟨fun h => h.1, fun h => ⟨h, (hdis.of_in2 hinO).symm⟩⟩
          have hpc : clr (T ++ [(a, o)]) (par x j) (j + 1) ↔ clr T (par x j) (j + 1) := by
            rw [hclr]
            refine ⟨fun h => h.1, fun h => ⟨h, ?_⟩⟩
            rcases dy_cases hda (par_dy x j) hjk with h1 | h1
            · exact absurd (h1.trans (par_in hdx)) hdis.not_in
            · exact (h1.of_in2 hinO).symm
          unfold Frb
          rw [hc, hpc]
      · -- as great or greater
        rcases dy_cases hdx hda hjk with hin | hdis
        · -- it has the block
          have hnc : ¬ clr (T ++ [(a, o)]) x j := fun h => ((hclr _ _).1 h).2.not_in (hin.trans hinO)
          constructor
          · intro h
            exfalso
            unfold take' at h
            by_cases e : j = k
            · subst e
              rw [if_pos rfl, hk] at h
              have hxa : x = a := by have := hin.1; have := hin.2; omega
              have := (hf j hj).1
              rw [hk] at this
              have := (List.pairwise_cons.1 this).1 x h
              omega
            · rw [if_neg e, if_neg (by omega)] at h
              have h1 := ((hf j hj).2 x).1 h
              have h2 : Frb n T k a := ((hf k hkn).2 a).1 (by rw [hk]; simp)
              exact h2.great hdx hxn (by omega) hin h1.2.2.2.1
          · intro h; exact absurd h.2.2.2.1 hnc
        · have hmem : x ∈ take' f a o k j ↔ x ∈ f j := by
            unfold take'
            by_cases e : j = k
            · subst e
              have hxa : x ≠ a := by
                rintro rfl
                exact hdis.not_in (In.refl _ _)
              rw [if_pos rfl, hk]; simp [hxa]
            · rw [if_neg e, if_neg (by omega)]
          rw [hmem, (hf j hj).2 x]
          have hc : clr (T ++ [(a, o)]) x j ↔ clr T x j := by
            rw [hclr]
            exact ⟨fun h => h.1, fun h => ⟨h, hdis.of_in hinO⟩⟩
          unfold Frb
          rw [hc]
          refine ⟨fun ⟨h1, h2, h3, h4, h5⟩ => ⟨h1, h2, h3, h4, ?_⟩, fun ⟨h1, h2, h3, h4, h5⟩ => ⟨h1, h2, h3, h4, ?_⟩⟩
          · rcases h5 with h5 | h5
            · exact .inl h5
            · exact .inr fun h => h5 ((hclr _ _).1 h).1
          · rcases h5 with h5 | h5
            · exact .inl h5
            · refine .inr fun h => h5 ((hclr _ _).2 ⟨h, ?_⟩)
              have hjn : j < n := by
                rcases Nat.lt_or_ge j n with h6 | h6
                · exact h6
                · exfalso
                  have e : j = n := by omega
                  subst e
                  have e2 : x = 0 := by have := p2 j; omega
                  subst e2
                  exact hdis.not_in ⟨Nat.zero_le _, by omega⟩
              rcases dy_cases (par_dy x j) hda (by omega) with h6 | h6
              · exfalso
                have h7 : Frb n T k a := ((hf k hkn).2 a).1 (by rw [hk]; simp)
                exact h7.great (par_dy x j) (par_le hdx hjn hxn) (by omega) h6 h
              · exact h6.of_in hinO
    · constructor
      · intro h
        exfalso
        refine hdx ?_
        unfold take' at h
        by_cases e : j = k
        · subst e
          rw [if_pos rfl, hk] at h
          have h1 := ((hf j hj).2 x).1 (by rw [hk]; exact List.mem_cons_of_mem _ h)
          exact ⟨h1.2.1, h1.2.2.1⟩
        · rw [if_neg e] at h
          by_cases e2 : o ≤ j ∧ j < k
          · rw [if_pos e2, List.mem_singleton] at h
            subst h
            refine ⟨(Nat.dvd_add_right (hda.le (Nat.le_of_lt e2.2))).2 (Nat.dvd_refl _), ?_⟩
            have := p2le (show j + 1 ≤ k from e2.2)
            rw [p2s] at this
            omega
          · rw [if_neg e2] at h
            have h1 := ((hf j hj).2 x).1 h
            exact ⟨h1.2.1, h1.2.2.1⟩
      · intro h; exact absurd ⟨h.2.1, h.2.2.1⟩ hdx
end Go.Proofs.YtejddfgmfdpnfaaDoor
namespace Go.Proofs.YtejddfgmfdpnfaaDoor

theorem ltA_iff {a b : Ad} : ltA a b = true ↔ validA a = true ∧ validA b = true ∧ ((a.six = false ∧ b.six = true) ∨ (a.six = b.six ∧ (a.hi < b.hi ∨ (a.hi = b.hi ∧ a.lo < b.lo)))) := by
  obtain ⟨s1, h1, l1⟩ := a
  obtain ⟨s2, h2, l2⟩ := b
  unfold ltA
  simp only [Ad.mk.injEq]
  by_cases e0 : validA ⟨s1, h1, l1⟩ = false
  · rw [if_pos (.inl e0), e0]; simp
  · by_cases e00 : validA ⟨s2, h2, l2⟩ = false
    · rw [if_pos (.inr (.inl e00)), e00]; simp
    · rw [Bool.not_eq_false] at e0 e00
      by_cases e1 : s1 = s2
      · subst e1
        by_cases e2 : h1 = h2
        · subst e2
          by_cases e3 : l1 = l2
          · subst e3
            rw [if_pos (.inr (.inr ⟨rfl, rfl, rfl⟩))]
            simp
          · rw [if_neg (by rw [e0, e00]; simp [e3]), if_neg (by simp), if_neg (by simp), decide_eq_true_eq]
            simp [e0, e00]
        · rw [if_neg (by rw [e0, e00]; simp [e2]), if_neg (by simp), if_pos e2, decide_eq_true_eq]
          simp [e0, e00, e2]
      · rw [if_neg (by rw [e0, e00]; simp [e1]), if_pos e1]
        cases s1 <;> cases s2 <;> simp_all
theorem ltA_irrefl (a : Ad) : ltA a a = false := by simp [ltA]
theorem ltA_trans {a b c : Ad} (h : ltA a b = true) (k : ltA b c = true) : ltA a c = true := by
  rw [ltA_iff] at *
  obtain ⟨h1, h2, h3⟩ := h
  obtain ⟨k1, k2, k3⟩ := k
  refine ⟨h1, k2, ?_⟩
  rcases h3 with ⟨h3, h4⟩ | ⟨h3, h4⟩ <;> rcases k3 with ⟨k3, k4⟩ | ⟨k3, k4⟩
  · rw [h4] at k3; cases k3
  · exact .inl ⟨h3, k3 ▸ h4⟩
  · exact .inl ⟨h3.trans k3, k4⟩
  · refine .inr ⟨h3.trans k3, ?_⟩
    omega
theorem ltA_total {a b : Ad} (ha : validA a = true) (hb : validA b = true) (hne : a ≠ b) : ltA a b = true ∨ ltA b a = true := by
  rw [ltA_iff, ltA_iff]
  obtain ⟨s1, h1, l1⟩ := a
  obtain ⟨s2, h2, l2⟩ := b
  simp only [ne_eq, Ad.mk.injEq] at *
  cases s1 <;> cases s2 <;> simp_all <;> omega
theorem ltA_asymm {a b : Ad} (h : ltA a b = true) : ltA b a = false := by
  cases h2 : ltA b a with
  | false => rfl
  | true =>
    have := ltA_trans h h2
    rw [ltA_irrefl] at this
    cases this
/-- Of one family: by their numbers. -/
theorem ltA_num {a b : Ad} (ha : a.ok) (hb : b.ok) (va : validA a = true) (vb : validA b = true) (hs : a.six = b.six) : ltA a b = true ↔ num a < num b := by
  rw [ltA_iff]
  obtain ⟨s1, h1, l1⟩ := a
  obtain ⟨s2, h2, l2⟩ := b
  unfold Ad.ok at ha hb
  simp only at hs ha hb
  subst hs
  unfold num
  cases s1 with
  | true => simp [va, vb]; omega
  | false => simp [validA] at va vb ⊢; omega
section
variable {p q r : Px} {a : Ad}
theorem coversP_iff (hp : p.ad.ok) (hq : q.ad.ok) : coversP p q = true ↔ validP p = true ∧ validP q = true ∧ p.bits ≤ q.bits ∧ p.ad.six = q.ad.six ∧ num p.ad ≤ num q.ad ∧ num q.ad < num p.ad + 2 ^ p.j := by
  unfold coversP
  rw [Bool.and_eq_true, Bool.and_eq_true, decide_eq_true_eq, holdsP_iff hp hq]
  constructor
  · rintro ⟨⟨h1, h2⟩, h3, _, h5, h6⟩
    exact ⟨h3, h1, h2, h5, h6⟩
  · rintro ⟨h1, h2, h3, h4, h5⟩
    exact ⟨⟨h2, h3⟩, h1, ((validP_iff hq).1 h2).1, h4, h5⟩
theorem j_le (hs : p.ad.six = q.ad.six) (hb : p.bits ≤ q.bits) (_h0 : 0 ≤ p.bits) : q.j ≤ p.j := by
  unfold Px.j widthA
  rw [hs]
  omega
theorem covers_in (hp : p.ad.ok) (hq : q.ad.ok) (h : coversP p q = true) : In (num p.ad) p.j (num q.ad) q.j := by
  obtain ⟨h1, h2, h3, h4, h5, h6⟩ := (coversP_iff hp hq).1 h
  obtain ⟨_, k2, _, k4⟩ := (validP_iff hp).1 h1
  obtain ⟨_, _, _, l4⟩ := (validP_iff hq).1 h2
  rcases dy_cases k4 l4 (j_le h4 h3 k2) with h7 | h7
  · exact h7
  · exfalso
    have := p2 p.j
    have := p2 q.j
    unfold Dis at h7
    omega
/-- One more bit: 0, 1. -/
def lowP (p : Px) : Px := ⟨p.ad, p.bits + 1⟩
def highA (p : Px) : Ad :=
  if p.ad.six = false then ⟨false, p.ad.hi, p.ad.lo + 2 ^ (31 - p.bits.toNat)⟩ else if p.bits < 64 then ⟨true, p.ad.hi + 2 ^ (63 - p.bits.toNat), p.ad.lo⟩ else ⟨true, p.ad.hi, p.ad.lo + 2 ^ (127 - p.bits.toNat)⟩
def highP (p : Px) : Px := ⟨highA p, p.bits + 1⟩
def fullP (p : Px) : Bool := !validP p || decide (p.bits = widthA p.ad)
theorem high_six (p : Px) : (highA p).six = p.ad.six := by
  unfold highA
  cases h : p.ad.six with
  | false => simp
  | true => by_cases h2 : p.bits < 64 <;> simp [h2]
theorem half_num (hv : validP p = true) (hp : p.ad.ok) (hf : p.bits ≠ widthA p.ad) : num (highA p) = num p.ad + 2 ^ (p.j - 1) ∧ (highA p).ok ∧ validA (highA p) = true ∧ 1 ≤ p.j ∧ num p.ad + 2 ^ p.j ≤ 2 ^ widthA p.ad := by
  obtain ⟨h1, h2, h3, h4⟩ := (validP_iff hp).1 hv
  have hlt := num_lt hp h1
  have hj : 1 ≤ p.j := by unfold Px.j; omega
  have hjw : p.j ≤ widthA p.ad := by unfold Px.j; omega
  have hle : num p.ad + 2 ^ p.j ≤ 2 ^ widthA p.ad := by
    obtain ⟨u, hu⟩ := h4
    obtain ⟨v, hv⟩ := Nat.pow_dvd_pow 2 hjw
    rw [hu, hv] at hlt ⊢
    have h5 : u < v := Nat.lt_of_mul_lt_mul_left hlt
    have := Nat.mul_le_mul_left (2 ^ p.j) (show u + 1 ≤ v from h5)
    rw [Nat.mul_add, Nat.mul_one] at this
    exact this
  have hs : 2 ^ p.j = 2 * 2 ^ (p.j - 1) := by
    have := p2s (p.j - 1)
    rwa [show p.j - 1 + 1 = p.j by omega] at this
  have hpp := p2 (p.j - 1)
  obtain ⟨o1, o2⟩ := hp
  cases hsx : p.ad.six with
  | false =>
    have hw : widthA p.ad = 32 := by unfold widthA; rw [hsx]; rfl
    have hnum : num p.ad = p.ad.lo := by unfold num; rw [hsx]; rfl
    have hh : highA p = ⟨false, p.ad.hi, p.ad.lo + 2 ^ (31 - p.bits.toNat)⟩ := by unfold highA; rw [if_pos hsx]
    have e : 31 - p.bits.toNat = p.j - 1 := by unfold Px.j; omega
    have e32 : (2 : Nat) ^ 32 = 4294967296 := by decide
    have h1' : p.ad.hi = 0 := by
      unfold validA at h1; rw [hsx] at h1; simp at h1; exact h1.1
    rw [hw] at hle ⊢
    rw [hnum] at hle ⊢
    rw [hh, e]
    refine ⟨rfl, ⟨o1, ?_⟩, ?_, hj, hle⟩
    · show p.ad.lo + 2 ^ (p.j - 1) < 18446744073709551616; omega
    · unfold validA; simp; exact ⟨h1', by omega⟩
  | true =>
    have hw : widthA p.ad = 128 := by unfold widthA; rw [hsx]; rfl
    have hnum : num p.ad = p.ad.hi * 18446744073709551616 + p.ad.lo := by unfold num; rw [hsx]; rfl
    have e128 : (2 : Nat) ^ 128 = 340282366920938463463374607431768211456 := by decide
    rw [hw] at hle h3 ⊢
    rw [hnum] at hle h4 ⊢
    by_cases hb : p.bits < 64
    · have hh : highA p = ⟨true, p.ad.hi + 2 ^ (63 - p.bits.toNat), p.ad.lo⟩ := by unfold highA; rw [if_neg (by rw [hsx]; simp), if_pos hb]
      have e : p.j - 1 = (63 - p.bits.toNat) + 64 := by unfold Px.j; omega
      have e2 : 2 ^ (p.j - 1) = 2 ^ (63 - p.bits.toNat) * 18446744073709551616 := by rw [e, Nat.pow_add, p64]
      rw [hh]
      refine ⟨?_, ⟨?_, o2⟩, rfl, hj, hle⟩
      · unfold num; simp only [if_true]; omega
      · show p.ad.hi + 2 ^ (63 - p.bits.toNat) < 18446744073709551616; omega
    · have hh : highA p = ⟨true, p.ad.hi, p.ad.lo + 2 ^ (127 - p.bits.toNat)⟩ := by unfold highA; rw [if_neg (by rw [hsx]; simp), if_neg hb]
      have e : 127 - p.bits.toNat = p.j - 1 := by unfold Px.j; omega
      have hj64 : p.j ≤ 64 := by unfold Px.j; omega
      rw [hh, e]
      -- the low half has room
      have hd : 2 ^ p.j ∣ p.ad.lo := by
        have h5 : 2 ^ p.j ∣ p.ad.hi * 18446744073709551616 := Nat.dvd_trans (Nat.dvd_trans (Nat.pow_dvd_pow 2 hj64) (by rw [← p64]; exact Nat.dvd_refl _)) (Nat.dvd_mul_left _ _)
        exact (Nat.dvd_add_right h5).1 h4
      have hlo : p.ad.lo + 2 ^ p.j ≤ 18446744073709551616 := by
        obtain ⟨u, hu⟩ := hd
        obtain ⟨v, hv⟩ := Nat.pow_dvd_pow 2 hj64
        rw [← p64] at hv
        rw [hu, hv] at o2 ⊢
        have h5 : u < v := Nat.lt_of_mul_lt_mul_left o2
        have := Nat.mul_le_mul_left (2 ^ p.j) (show u + 1 ≤ v from h5)
        rw [Nat.mul_add, Nat.mul_one] at this
        exact this
      refine ⟨?_, ⟨o1, ?_⟩, rfl, hj, hle⟩
      · unfold num; simp only [if_true]; omega
      · show p.ad.lo + 2 ^ (p.j - 1) < 18446744073709551616; omega
theorem low_valid (hv : validP p = true) (hp : p.ad.ok) (hf : p.bits ≠ widthA p.ad) : validP (lowP p) = true ∧ (lowP p).j = p.j - 1 := by
  obtain ⟨h1, h2, h3, h4⟩ := (validP_iff hp).1 hv
  have hj : (lowP p).j = p.j - 1 := by unfold Px.j lowP; simp; omega
  refine ⟨(validP_iff (p := lowP p) hp).2 ⟨h1, ?_, ?_, ?_⟩, hj⟩
  · show 0 ≤ p.bits + 1; omega
  · show p.bits + 1 ≤ widthA p.ad; omega
  · rw [hj]; exact Nat.dvd_trans (Nat.pow_dvd_pow 2 (Nat.sub_le _ _)) h4
theorem high_valid (hv : validP p = true) (hp : p.ad.ok) (hf : p.bits ≠ widthA p.ad) : validP (highP p) = true ∧ (highP p).j = p.j - 1 := by
  obtain ⟨h1, h2, h3, h4⟩ := (validP_iff hp).1 hv
  obtain ⟨n1, n2, n3, n4, n5⟩ := half_num hv hp hf
  have hw : widthA (highA p) = widthA p.ad := by unfold widthA; rw [high_six]
  have hj : (highP p).j = p.j - 1 := by unfold Px.j highP; simp only [hw]; omega
  refine ⟨(validP_iff (p := highP p) n2).2 ⟨n3, ?_, ?_, ?_⟩, hj⟩
  · show 0 ≤ p.bits + 1; omega
  · show p.bits + 1 ≤ widthA (highA p); rw [hw]; omega
  · rw [hj]
    show 2 ^ (p.j - 1) ∣ num (highA p)
    rw [n1]
    exact (Nat.dvd_add_right (Nat.dvd_trans (Nat.pow_dvd_pow 2 (Nat.sub_le _ _)) h4)).2 (Nat.dvd_refl _)
/-- The law of halves. -/
theorem halves_law (hv : validP p = true) (hp : p.ad.ok) (hf : p.bits ≠ widthA p.ad) (ha : a.ok) :
    (holdsP p a = (holdsP (lowP p) a != holdsP (highP p) a)) ∧ (holdsP (lowP p) a && holdsP (highP p) a) = false ∧ coversP p (lowP p) = true ∧ coversP p (highP p) = true ∧ coversP (lowP p) (highP p) = false ∧ coversP (highP p) (lowP p) = false ∧ coversP (lowP p) p = false ∧ ltP p (lowP p) = true ∧ ltP (lowP p) (highP p) = true := by
  obtain ⟨n1, n2, n3, n4, n5⟩ := half_num hv hp hf
  obtain ⟨l1, l2⟩ := low_valid hv hp hf
  obtain ⟨g1, g2⟩ := high_valid hv hp hf
  have h1 := ((validP_iff hp).1 hv).1
  have hs : 2 ^ p.j = 2 * 2 ^ (p.j - 1) := by
    have := p2s (p.j - 1)
    rwa [show p.j - 1 + 1 = p.j by omega] at this
  have hpp := p2 (p.j - 1)
  have e1 := holdsP_iff hp ha
  have e2 := holdsP_iff (p := lowP p) (show (lowP p).ad.ok from hp) ha
  have e3 := holdsP_iff (p := highP p) (show (highP p).ad.ok from n2) ha
  have c1 := coversP_iff (p := p) (q := lowP p) hp hp
  have c2 := coversP_iff (p := p) (q := highP p) hp n2
  have c3 := coversP_iff (p := lowP p) (q := highP p) hp n2
  have c4 := coversP_iff (p := highP p) (q := lowP p) n2 hp
  have c5 := coversP_iff (p := lowP p) (q := p) hp hp
  have al : (lowP p).ad = p.ad := rfl
  have ah : (highP p).ad = highA p := rfl
  have bl : (lowP p).bits = p.bits + 1 := rfl
  have bh : (highP p).bits = p.bits + 1 := rfl
  simp only [hv, l1, g1, al, ah, bl, bh, l2, g2, n1, high_six, true_and] at e1 e2 e3 c1 c2 c3 c4 c5
  have hlt : ltA p.ad (highA p) = true := (ltA_num hp n2 h1 n3 (high_six p).symm).2 (by rw [n1]; omega)
  refine ⟨?_, ?_, c1.2 (by omega), c2.2 (by omega), ?_, ?_, ?_, ?_, ?_⟩
  · rw [Bool.eq_iff_iff, e1]
    have e4 : (holdsP (lowP p) a = holdsP (highP p) a) ↔ ((holdsP (lowP p) a = true) ↔ (holdsP (highP p) a = true)) := Bool.eq_iff_iff
    rw [bne_iff_ne, ne_eq, e4, e2, e3]
    by_cases hx : validA a = true ∧ p.ad.six = a.six
    · simp only [hx.1, hx.2, true_and]
      omega
    · constructor
      · rintro ⟨k1, k2, _⟩
        exact absurd ⟨k1, k2⟩ hx
      · intro k
        exfalso
        refine k ⟨?_, ?_⟩
        · rintro ⟨k1, k2, _⟩; exact absurd ⟨k1, k2⟩ hx
        · rintro ⟨k1, k2, _⟩; exact absurd ⟨k1, k2⟩ hx
  · rw [Bool.eq_false_iff, ne_eq, Bool.and_eq_true, e2, e3]
    omega
  · rw [Bool.eq_false_iff, ne_eq, c3]; omega
  · rw [Bool.eq_false_iff, ne_eq, c4]; omega
  · rw [Bool.eq_false_iff, ne_eq, c5]; omega
  · unfold ltP
    rw [hv, l1, al, bl]
    simp
    omega
  · unfold ltP
    rw [l1, g1, al, ah, hlt]
    rfl
/-- The law of nests. -/
theorem nests_law (hp : p.ad.ok) (hq : q.ad.ok) (ha : a.ok) :
    (coversP p q = true → holdsP q a = true → holdsP p a = true) ∧ (holdsP p a = true → holdsP q a = true → coversP p q = true ∨ coversP q p = true) ∧
    ((coversP p q = true ∧ coversP q p = true) ↔ (p = q ∧ validP p = true)) := by
  refine ⟨fun h k => ?_, fun h k => ?_, ?_⟩
  · have hin := covers_in hp hq h
    obtain ⟨h1, h2, h3, h4, h5, h6⟩ := (coversP_iff hp hq).1 h
    obtain ⟨k1, k2, k3, k4, k5⟩ := (holdsP_iff hq ha).1 k
    refine (holdsP_iff hp ha).2 ⟨h1, k2, h4.trans k3, ?_⟩
    unfold In at hin
    omega
  · obtain ⟨h1, h2, h3, h4, h5⟩ := (holdsP_iff hp ha).1 h
    obtain ⟨k1, k2, k3, k4, k5⟩ := (holdsP_iff hq ha).1 k
    have hs : p.ad.six = q.ad.six := h3.trans k3.symm
    obtain ⟨_, p0, _, pd⟩ := (validP_iff hp).1 h1
    obtain ⟨_, q0, _, qd⟩ := (validP_iff hq).1 k1
    have := p2 p.j
    have := p2 q.j
    rcases Int.le_total p.bits q.bits with hb | hb
    · left
      rw [coversP_iff hp hq]
      refine ⟨h1, k1, hb, hs, ?_⟩
      rcases dy_cases pd qd (j_le hs hb p0) with h7 | h7
      · unfold In at h7; omega
      · unfold Dis at h7; omega
    · right
      rw [coversP_iff hq hp]
      refine ⟨k1, h1, hb, hs.symm, ?_⟩
      rcases dy_cases qd pd (j_le hs.symm hb q0) with h7 | h7
      · unfold In at h7; omega
      · unfold Dis at h7; omega
  · constructor
    · rintro ⟨h, k⟩
      obtain ⟨h1, h2, h3, h4, h5, h6⟩ := (coversP_iff hp hq).1 h
      obtain ⟨k1, k2, k3, k4, k5, k6⟩ := (coversP_iff hq hp).1 k
      refine ⟨?_, h1⟩
      have e := num_inj hp hq ((validP_iff hp).1 h1).1 ((validP_iff hq).1 h2).1 h4 (by omega)
      obtain ⟨a1, b1⟩ := p
      obtain ⟨a2, b2⟩ := q
      simp only at e h3 k3
      rw [Px.mk.injEq]
      exact ⟨e, by omega⟩
    · rintro ⟨rfl, hv⟩
      have := (coversP_iff hp hp).2 ⟨hv, hv, Int.le_refl _, rfl, Nat.le_refl _, by have := p2 p.j; omega⟩
      exact ⟨this, this⟩
theorem ltP_iff : ltP p q = true ↔ validP p = true ∧ validP q = true ∧ (ltA p.ad q.ad = true ∨ (p.ad = q.ad ∧ p.bits < q.bits)) := by
  unfold ltP
  simp only [Bool.and_eq_true, Bool.or_eq_true, decide_eq_true_eq, and_assoc]
theorem ltP_irrefl (p : Px) : ltP p p = false := by
  rw [Bool.eq_false_iff, ne_eq, ltP_iff, ltA_irrefl]
  simp
theorem ltP_trans (h : ltP p q = true) (k : ltP q r = true) : ltP p r = true := by
  rw [ltP_iff] at *
  obtain ⟨h1, h2, h3⟩ := h
  obtain ⟨k1, k2, k3⟩ := k
  refine ⟨h1, k2, ?_⟩
  rcases h3 with h3 | ⟨h3, h4⟩ <;> rcases k3 with k3 | ⟨k3, k4⟩
  · exact .inl (ltA_trans h3 k3)
  · exact .inl (k3 ▸ h3)
  · exact .inl (h3 ▸ k3)
  · exact .inr ⟨h3.trans k3, by omega⟩
theorem ltP_total (hp : validP p = true) (hq : validP q = true) (hne : p ≠ q) : ltP p q = true ∨ ltP q p = true := by
  rw [ltP_iff, ltP_iff]
  have va : validA p.ad = true := by unfold validP at hp; simp only [Bool.and_eq_true] at hp; exact hp.1.1.1
  have vb : validA q.ad = true := by unfold validP at hq; simp only [Bool.and_eq_true] at hq; exact hq.1.1.1
  by_cases e : p.ad = q.ad
  · have : p.bits ≠ q.bits := fun e2 => hne (by cases p; cases q; simp_all)
    rcases Int.lt_or_gt_of_ne this with h | h
    · exact .inl ⟨hp, hq, .inr ⟨e, h⟩⟩
    · exact .inr ⟨hq, hp, .inr ⟨e.symm, h⟩⟩
  · rcases ltA_total va vb e with h | h
    · exact .inl ⟨hp, hq, .inl h⟩
    · exact .inr ⟨hq, hp, .inl h⟩
theorem covers_not_lt (hp : p.ad.ok) (hq : q.ad.ok) (h : coversP p q = true) : ltP q p = false := by
  rw [Bool.eq_false_iff, ne_eq, ltP_iff]
  obtain ⟨h1, h2, h3, h4, h5, h6⟩ := (coversP_iff hp hq).1 h
  rintro ⟨_, _, k | ⟨k1, k2⟩⟩
  · rw [ltA_num hq hp ((validP_iff hq).1 h2).1 ((validP_iff hp).1 h1).1 h4.symm] at k
    omega
  · omega
end
end Go.Proofs.YtejddfgmfdpnfaaDoor
namespace Go.Proofs.YtejddfgmfdpnfaaDoor

theorem bit_zero_of_div {n k : Nat} (h : 2 ^ (k + 1) ∣ n) : n / 2 ^ k % 2 = 0 := by
  obtain ⟨u, rfl⟩ := h
  rw [Nat.pow_succ, Nat.mul_assoc, Nat.mul_div_cancel_left _ (Nat.two_pow_pos k)]
  omega
theorem bit_cut {n j k : Nat} (h : j ≤ k) : n / 2 ^ j * 2 ^ j / 2 ^ k % 2 = n / 2 ^ k % 2 := by
  obtain ⟨d, rfl⟩ := Nat.exists_eq_add_of_le h
  rw [Nat.pow_add, ← Nat.div_div_eq_div_mul, ← Nat.div_div_eq_div_mul, Nat.mul_div_cancel _ (Nat.two_pow_pos j)]
theorem bit_cut0 {n j k : Nat} (h : k < j) : n / 2 ^ j * 2 ^ j / 2 ^ k % 2 = 0 :=
  bit_zero_of_div (Nat.dvd_trans (Nat.pow_dvd_pow 2 h) (Nat.dvd_mul_left _ _))
/-- The i-th bit is that of the number. -/
theorem bit_num {a : Ad} (ho : a.ok) (hv : validA a = true) {i : Nat} (hi : i < widthA a) : bitA a (i : Int) = num a / 2 ^ (widthA a - 1 - i) % 2 := by
  obtain ⟨h1, h2⟩ := ho
  unfold bitA
  rw [if_neg (by rw [hv]; simp; omega)]
  cases hs : a.six with
  | false =>
    have hw : widthA a = 32 := by unfold widthA; rw [hs]; rfl
    have hnum : num a = a.lo := by unfold num; rw [hs]; rfl
    rw [if_pos rfl, hw, hnum, Int.toNat_natCast]
  | true =>
    have hw : widthA a = 128 := by unfold widthA; rw [hs]; rfl
    have hnum : num a = a.hi * 18446744073709551616 + a.lo := by unfold num; rw [hs]; rfl
    rw [if_neg (by simp), hw, hnum, Int.toNat_natCast]
    by_cases h64 : (i : Int) < 64
    · rw [if_pos h64]
      have e : 2 ^ (128 - 1 - i) = 2 ^ 64 * 2 ^ (63 - i) := by rw [← Nat.pow_add]; congr 1; omega
      have e3 : a.lo / 2 ^ 64 = 0 := Nat.div_eq_of_lt (by rw [← p64]; exact h2)
      rw [e, ← Nat.div_div_eq_div_mul, p64, Nat.mul_comm a.hi, Nat.mul_add_div (Nat.two_pow_pos 64), e3, Nat.add_zero]
    · rw [if_neg h64]
      have e : 127 - i = 128 - 1 - i := by omega
      rw [e]
      obtain ⟨q, hq⟩ : ∃ q, 18446744073709551616 = 2 ^ (128 - 1 - i) * (2 * q) := ⟨2 ^ (63 - (128 - 1 - i)), by
        rw [p64, ← Nat.mul_assoc, ← Nat.pow_succ, ← Nat.pow_add]; congr 1; omega⟩
      rw [hq, show a.hi * (2 ^ (128 - 1 - i) * (2 * q)) = 2 ^ (128 - 1 - i) * (2 * (a.hi * q)) by
        rw [← Nat.mul_assoc, Nat.mul_comm a.hi, Nat.mul_assoc, ← Nat.mul_assoc a.hi 2, Nat.mul_comm a.hi 2, Nat.mul_assoc 2], Nat.mul_add_div (Nat.two_pow_pos _)]
      omega
theorem bit_lt2 (a : Ad) (i : Int) : bitA a i < 2 := by
  unfold bitA
  split
  · omega
  · split
    · omega
    · split <;> omega
theorem bitA_cut {a : Ad} (ho : a.ok) (hv : validA a = true) {m : Nat} (hm : m ≤ widthA a) {i : Nat} (hi : i < widthA a) : bitA (cutA a m) (i : Int) = if i < m then bitA a (i : Int) else 0 := by
  have hw : widthA (cutA a (m : Int)) = widthA a := by unfold widthA; rw [cut_six]
  rw [bit_num (cut_ok ho _) (cut_valid hv _) (by rw [hw]; exact hi), hw, cut_num ho hm]
  by_cases h : i < m
  · rw [if_pos h, bit_cut (by omega), bit_num ho hv hi]
  · rw [if_neg h, bit_cut0 (by omega)]
/-- An address's bytes, the most significant one first. -/
def byteA (a : Ad) (j : Nat) : Nat := if a.six = true then (if j < 8 then a.hi / 2 ^ (56 - 8 * j) % 256 else a.lo / 2 ^ (120 - 8 * j) % 256) else a.lo / 2 ^ (24 - 8 * j) % 256
def bytesA (a : Ad) : List Nat := (List.range (if a.six = true then 16 else 4)).map (byteA a)
theorem bytesA_len (a : Ad) : (bytesA a).length = if a.six = true then 16 else 4 := by simp [bytesA]
theorem bytesA_at {a : Ad} {j : Nat} (h : j < if a.six = true then 16 else 4) : (bytesA a)[j]? = some (byteA a j) := by
  unfold bytesA
  rw [List.getElem?_map, List.getElem?_range h]
  rfl
theorem byteA_lt (a : Ad) (j : Nat) : byteA a j < 256 := by
  unfold byteA
  split
  · split <;> exact Nat.mod_lt _ (by omega)
  · exact Nat.mod_lt _ (by omega)
theorem byte_bit (n s r : Nat) (hr : r ≤ 7) : n / 2 ^ s % 256 / 2 ^ (7 - r) % 2 = n / 2 ^ (s + (7 - r)) % 2 := by
  rw [show (256 : Nat) = 2 ^ (7 - r) * 2 ^ (r + 1) by rw [← Nat.pow_add, show 7 - r + (r + 1) = 8 by omega], Nat.mod_mul_right_div_self, Nat.div_div_eq_div_mul, ← Nat.pow_add, Nat.pow_succ, Nat.mul_comm (2 ^ r) 2, Nat.mod_mul_right_mod]
theorem byte_bitA {a : Ad} (hv : validA a = true) {i : Nat} (hi : i < widthA a) : byteA a (i / 8) / 2 ^ (7 - i % 8) % 2 = bitA a (i : Int) := by
  unfold bitA
  rw [if_neg (by rw [hv]; simp; omega)]
  unfold byteA widthA at *
  cases hs : a.six with
  | false =>
    rw [hs] at hi
    simp only [Bool.false_eq_true, if_false, if_true] at hi ⊢
    rw [byte_bit _ _ _ (by omega), Int.toNat_natCast]
    congr 3; omega
  | true =>
    rw [hs] at hi
    simp only [if_true] at hi ⊢
    rw [Int.toNat_natCast]
    by_cases h : i < 64
    · have h8 : i / 8 < 8 := by omega
      have hI : (i : Int) < 64 := by omega
      simp only [h8, hI, if_true, if_false, Bool.true_eq_false]
      rw [byte_bit _ _ _ (by omega)]
      congr 3; omega
    · have h8 : ¬ i / 8 < 8 := by omega
      have hI : ¬ (i : Int) < 64 := by omega
      simp only [h8, hI, if_false, Bool.true_eq_false]
      rw [byte_bit _ _ _ (by omega)]
      congr 3; omega
/-- n first bits are alike, and no more. -/
def CmnIs (a b : Ad) (n : Nat) : Prop := n ≤ widthA a ∧ num a / 2 ^ (widthA a - n) = num b / 2 ^ (widthA a - n) ∧ (n = widthA a ∨ num a / 2 ^ (widthA a - 1 - n) % 2 ≠ num b / 2 ^ (widthA a - 1 - n) % 2)
theorem div_mono {x y i j : Nat} (h : i ≤ j) (e : x / 2 ^ i = y / 2 ^ i) : x / 2 ^ j = y / 2 ^ j := by
  obtain ⟨d, rfl⟩ := Nat.exists_eq_add_of_le h
  rw [Nat.pow_add, ← Nat.div_div_eq_div_mul, ← Nat.div_div_eq_div_mul, e]
theorem CmnIs.eq {a b : Ad} {n m : Nat} (h : CmnIs a b n) (k : CmnIs a b m) : n = m := by
  obtain ⟨h1, h2, h3⟩ := h
  obtain ⟨k1, k2, k3⟩ := k
  rcases Nat.lt_trichotomy n m with hl | hl | hl
  · exfalso
    rcases h3 with h3 | h3
    · omega
    · exact h3 (by rw [div_mono (i := widthA a - m) (by omega) k2])
  · exact hl
  · exfalso
    rcases k3 with k3 | k3
    · omega
    · exact k3 (by rw [div_mono (i := widthA a - n) (by omega) h2])
theorem CmnIs.step {a b : Ad} {n : Nat} (h1 : n < widthA a) (h2 : num a / 2 ^ (widthA a - n) = num b / 2 ^ (widthA a - n)) (h3 : num a / 2 ^ (widthA a - 1 - n) % 2 = num b / 2 ^ (widthA a - 1 - n) % 2) :
    num a / 2 ^ (widthA a - (n + 1)) = num b / 2 ^ (widthA a - (n + 1)) := by
  have e : widthA a - n = (widthA a - (n + 1)) + 1 := by omega
  have e2 : widthA a - 1 - n = widthA a - (n + 1) := by omega
  rw [e2] at h3
  rw [e, Nat.pow_succ, ← Nat.div_div_eq_div_mul, ← Nat.div_div_eq_div_mul] at h2
  omega
/-- A prefix holds whoever has its bits in common. -/
theorem holds_cmn {p : Px} {a : Ad} (hp : p.ad.ok) (ha : a.ok) (hv : validP p = true) (va : validA a = true) (hs : p.ad.six = a.six) {n : Nat} (hn : CmnIs p.ad a n) : holdsP p a = decide (p.bits ≤ (n : Int)) := by
  obtain ⟨k1, k2, k3, k4⟩ := (validP_iff hp).1 hv
  rw [Bool.eq_iff_iff, holdsP_iff hp ha, decide_eq_true_eq, ← in_block k4]
  simp only [hv, va, hs, true_and]
  have hj : p.j = widthA p.ad - p.bits.toNat := rfl
  have e0 : num p.ad / 2 ^ p.j * 2 ^ p.j = num p.ad := Nat.div_mul_cancel k4
  have hp2 : 0 < 2 ^ p.j := Nat.two_pow_pos _
  have e : (num a / 2 ^ p.j * 2 ^ p.j = num p.ad) ↔ num p.ad / 2 ^ p.j = num a / 2 ^ p.j := by
    constructor
    · intro h; rw [← h, Nat.mul_div_cancel _ hp2]
    · intro h; rw [← h]; exact e0
  rw [e, hj]
  obtain ⟨h1, h2, h3⟩ := hn
  constructor
  · intro h
    rcases (by omega : (n : Int) < p.bits ∨ p.bits ≤ (n : Int)) with hl | hl
    · exfalso
      rcases h3 with h3 | h3
      · omega
      · exact h3 (by rw [div_mono (i := widthA p.ad - p.bits.toNat) (by omega) h])
    · exact hl
  · intro h
    exact div_mono (by omega) h2
end Go.Proofs.YtejddfgmfdpnfaaDoor
namespace Go.Proofs.YtejddfgmfdpnfaaDoor

def nby (a : Ad) : Nat := if a.six = true then 16 else 4
theorem nby_w (a : Ad) : widthA a = 8 * nby a := by unfold widthA nby; split <;> rfl
/-- A byte is that of the number. -/
theorem byte_num {a : Ad} (ho : a.ok) {j : Nat} (hj : j < nby a) : byteA a j = num a / 2 ^ (widthA a - 8 - 8 * j) % 256 := by
  obtain ⟨h1, h2⟩ := ho
  unfold byteA
  cases hs : a.six with
  | false =>
    have hw : widthA a = 32 := by unfold widthA; rw [hs]; rfl
    have hnum : num a = a.lo := by unfold num; rw [hs]; rfl
    rw [if_neg (by simp), hw, hnum]
  | true =>
    have hw : widthA a = 128 := by unfold widthA; rw [hs]; rfl
    have hn : nby a = 16 := by unfold nby; rw [hs]; rfl
    have hnum : num a = a.hi * 18446744073709551616 + a.lo := by unfold num; rw [hs]; rfl
    rw [if_pos rfl, hw, hnum]
    by_cases h : j < 8
    · rw [if_pos h]
      have e : 2 ^ (128 - 8 - 8 * j) = 2 ^ 64 * 2 ^ (56 - 8 * j) := by rw [← Nat.pow_add]; congr 1; omega
      have e3 : a.lo / 2 ^ 64 = 0 := Nat.div_eq_of_lt (by rw [← p64]; exact h2)
      rw [e, ← Nat.div_div_eq_div_mul, p64, Nat.mul_comm a.hi, Nat.mul_add_div (Nat.two_pow_pos 64), e3, Nat.add_zero]
    · rw [if_neg h]
      have e : 120 - 8 * j = 128 - 8 - 8 * j := by omega
      rw [e]
      obtain ⟨q, hq⟩ : ∃ q, 18446744073709551616 = 2 ^ (128 - 8 - 8 * j) * (256 * q) := ⟨2 ^ (56 - (128 - 8 - 8 * j)), by
        rw [p64, show (256 : Nat) = 2 ^ 8 from rfl, ← Nat.pow_add, ← Nat.pow_add]; congr 1; omega⟩
      rw [hq, show a.hi * (2 ^ (128 - 8 - 8 * j) * (256 * q)) = 2 ^ (128 - 8 - 8 * j) * (256 * (a.hi * q)) by
        rw [← Nat.mul_assoc, Nat.mul_comm a.hi, Nat.mul_assoc, ← Nat.mul_assoc a.hi 256, Nat.mul_comm a.hi 256, Nat.mul_assoc 256], Nat.mul_add_div (Nat.two_pow_pos _)]
      omega
theorem num_split {a : Ad} (ho : a.ok) {i : Nat} (hi : i < nby a) : num a / 2 ^ (widthA a - 8 * (i + 1)) = 256 * (num a / 2 ^ (widthA a - 8 * i)) + byteA a i := by
  rw [byte_num ho hi]
  have hw := nby_w a
  have e : 2 ^ (widthA a - 8 * i) = 2 ^ (widthA a - 8 * (i + 1)) * 256 := by
    rw [show (256 : Nat) = 2 ^ 8 from rfl, ← Nat.pow_add]; congr 1; omega
  rw [e, ← Nat.div_div_eq_div_mul, show widthA a - 8 - 8 * i = widthA a - 8 * (i + 1) by omega]
  omega
theorem pre_eq {a b : Ad} (ha : a.ok) (hb : b.ok) (va : validA a = true) (vb : validA b = true) (hs : a.six = b.six) : ∀ i, i ≤ nby a → (∀ j, j < i → byteA a j = byteA b j) → num a / 2 ^ (widthA a - 8 * i) = num b / 2 ^ (widthA a - 8 * i)
  | 0, _, _ => by
    have h1 := num_lt ha va
    have h2 := num_lt hb vb
    have hw : widthA b = widthA a := by unfold widthA; rw [hs]
    rw [hw] at h2
    rw [Nat.mul_zero, Nat.sub_zero, Nat.div_eq_of_lt h1, Nat.div_eq_of_lt h2]
  | i + 1, hi, h => by
    have ih := pre_eq ha hb va vb hs i (by omega) fun j hj => h j (by omega)
    have hw : widthA b = widthA a := by unfold widthA; rw [hs]
    have hn : nby b = nby a := by unfold nby; rw [hs]
    have e1 := num_split ha (i := i) (by omega)
    have e2 := num_split hb (i := i) (by omega)
    rw [hw] at e2
    rw [e1, e2, ih, h i (by omega)]
theorem cmn_all {a b : Ad} (ha : a.ok) (hb : b.ok) (va : validA a = true) (vb : validA b = true) (hs : a.six = b.six) (h : ∀ j, j < nby a → byteA a j = byteA b j) : CmnIs a b (widthA a) := by
  refine ⟨Nat.le_refl _, ?_, .inl rfl⟩
  have := pre_eq ha hb va vb hs (nby a) (Nat.le_refl _) h
  rwa [← nby_w] at this
theorem xor_div (x y k : Nat) : (x ^^^ y) / 2 ^ k = (x / 2 ^ k) ^^^ (y / 2 ^ k) := by
  rw [← Nat.shiftRight_eq_div_pow, ← Nat.shiftRight_eq_div_pow, ← Nat.shiftRight_eq_div_pow, Nat.shiftRight_xor_distrib]
theorem xor_zero {x y : Nat} (h : x ^^^ y = 0) : x = y := Nat.eq_of_testBit_eq fun i => by
  have h1 : (x ^^^ y).testBit i = false := by rw [h]; exact Nat.zero_testBit i
  rw [Nat.testBit_xor] at h1
  revert h1
  cases x.testBit i <;> cases y.testBit i <;> simp
theorem xor_ne {x y : Nat} (h : x ≠ y) : x ^^^ y ≠ 0 := fun e => h (xor_zero e)
theorem cmn_byte {a b : Ad} (ha : a.ok) (hb : b.ok) (va : validA a = true) (vb : validA b = true) (hs : a.six = b.six) {i : Nat} (hi : i < nby a) (h : ∀ j, j < i → byteA a j = byteA b j) (hne : byteA a i ≠ byteA b i) :
    CmnIs a b (8 * i + (8 - Lib.bitLen (byteA a i ^^^ byteA b i))) := by
  have hx := byteA_lt a i
  have hy := byteA_lt b i
  have hd : byteA a i ^^^ byteA b i < 2 ^ 8 := Nat.xor_lt_two_pow hx hy
  obtain ⟨b1, b2, b3⟩ := Lib.bitLenAux_bounds 64 (byteA a i ^^^ byteA b i) (Nat.lt_of_lt_of_le hd (Nat.pow_le_pow_right (by omega) (by omega))) (xor_ne hne)
  have hL8 : Lib.bitLen (byteA a i ^^^ byteA b i) ≤ 8 := Lib.bitLen_le _ 8 (by omega) hd
  have hw := nby_w a
  have hwb : widthA b = widthA a := by unfold widthA; rw [hs]
  have hn : nby b = nby a := by unfold nby; rw [hs]
  have e1 := num_split ha hi
  have e2 := num_split hb (i := i) (by omega)
  rw [hwb, ← pre_eq ha hb va vb hs i (by omega) h] at e2
  change 1 ≤ Lib.bitLen (byteA a i ^^^ byteA b i) at b1
  change 2 ^ (Lib.bitLen (byteA a i ^^^ byteA b i) - 1) ≤ _ at b2
  change _ < 2 ^ Lib.bitLen (byteA a i ^^^ byteA b i) at b3
  generalize Lib.bitLen (byteA a i ^^^ byteA b i) = L at *
  generalize num a / 2 ^ (widthA a - 8 * i) = Q at *
  generalize byteA a i = x at *
  generalize byteA b i = y at *
  have hs1 : widthA a - (8 * i + (8 - L)) = (widthA a - 8 * (i + 1)) + L := by omega
  have hs2 : widthA a - 1 - (8 * i + (8 - L)) = (widthA a - 8 * (i + 1)) + (L - 1) := by omega
  refine ⟨by omega, ?_, .inr ?_⟩
  · rw [hs1, Nat.pow_add, ← Nat.div_div_eq_div_mul, ← Nat.div_div_eq_div_mul, e1, e2]
    obtain ⟨q, hq⟩ : ∃ q, 256 * Q = 2 ^ L * q := ⟨2 ^ (8 - L) * Q, by rw [← Nat.mul_assoc, ← Nat.pow_add, show L + (8 - L) = 8 by omega]⟩
    have h0 : (x ^^^ y) / 2 ^ L = 0 := Nat.div_eq_of_lt b3
    rw [xor_div] at h0
    rw [hq, Nat.mul_add_div (Nat.two_pow_pos L), Nat.mul_add_div (Nat.two_pow_pos L), xor_zero h0]
  · rw [hs2, Nat.pow_add, ← Nat.div_div_eq_div_mul, ← Nat.div_div_eq_div_mul, e1, e2]
    obtain ⟨q, hq⟩ : ∃ q, 256 * Q = 2 ^ (L - 1) * (2 * q) := ⟨2 ^ (8 - L) * Q, by rw [← Nat.mul_assoc, ← Nat.mul_assoc, ← Nat.pow_succ, ← Nat.pow_add, show L - 1 + 1 + (8 - L) = 8 by omega]⟩
    have h1 : (x ^^^ y) / 2 ^ (L - 1) = 1 := by
      rw [Nat.div_eq_iff (Nat.two_pow_pos _)]
      have e : 2 ^ L = 2 * 2 ^ (L - 1) := by rw [Nat.mul_comm, ← Nat.pow_succ]; congr 1; omega
      omega
    rw [xor_div] at h1
    rw [hq, Nat.mul_add_div (Nat.two_pow_pos _), Nat.mul_add_div (Nat.two_pow_pos _)]
    intro e
    have e3 : x / 2 ^ (L - 1) % 2 = y / 2 ^ (L - 1) % 2 := by omega
    have h2 : (x / 2 ^ (L - 1) ^^^ y / 2 ^ (L - 1)) % 2 = 1 % 2 := by rw [h1]
    have h4 : (x / 2 ^ (L - 1) ^^^ y / 2 ^ (L - 1)) % 2 = ((x / 2 ^ (L - 1)) % 2 ^^^ (y / 2 ^ (L - 1)) % 2) := by
      have := Nat.xor_mod_two_pow (a := x / 2 ^ (L - 1)) (b := y / 2 ^ (L - 1)) (n := 1)
      simpa using this
    rw [h4, e3, Nat.xor_self] at h2
    omega
/-- An address out of its first bits. -/
def ofAt (b : Ad) (i : Nat) : Ad := if b.six = true then (if i ≤ 64 then ⟨true, b.hi / 2 ^ (64 - i), 0⟩ else ⟨true, b.hi, b.lo / 2 ^ (128 - i)⟩) else ⟨false, 0, b.lo / 2 ^ (32 - i)⟩
theorem half_bit (n k : Nat) : n / 2 ^ k = n / 2 ^ (k + 1) * 2 + n / 2 ^ k % 2 := by
  rw [Nat.pow_succ, ← Nat.div_div_eq_div_mul]; omega
theorem ofAt_step {b : Ad} (ho : b.ok) (hv : validA b = true) {i : Nat} (hi : i < widthA b) :
    ofAt b (i + 1) = if b.six = true ∧ i < 64 then ⟨b.six, (ofAt b i).hi * 2 + bitA b (i : Int), (ofAt b i).lo⟩ else ⟨b.six, (ofAt b i).hi, (ofAt b i).lo * 2 + bitA b (i : Int)⟩ := by
  obtain ⟨h1, h2⟩ := ho
  have hb : bitA b (i : Int) = if b.six = false then b.lo / 2 ^ (31 - i) % 2 else if i < 64 then b.hi / 2 ^ (63 - i) % 2 else b.lo / 2 ^ (127 - i) % 2 := by
    unfold bitA
    rw [if_neg (by rw [hv]; simp; omega), Int.toNat_natCast]
    congr 1
    by_cases h : i < 64
    · rw [if_pos h, if_pos (by omega)]
    · rw [if_neg h, if_neg (by omega)]
  rw [hb]
  unfold ofAt widthA at *
  cases hs : b.six with
  | false =>
    rw [hs] at hi
    simp only [Bool.false_eq_true, if_false, false_and] at hi ⊢
    rw [if_pos trivial, show 32 - (i + 1) = 31 - i by omega, Ad.mk.injEq]
    refine ⟨rfl, rfl, ?_⟩
    conv => lhs; rw [half_bit b.lo (31 - i)]
    rw [show 31 - i + 1 = 32 - i by omega]
  | true =>
    rw [hs] at hi
    simp only [if_true, true_and, Bool.true_eq_false, if_false] at hi ⊢
    by_cases h : i < 64
    · rw [if_pos h, if_pos (by omega), if_pos (by omega), if_pos h, show 64 - (i + 1) = 63 - i by omega]
      rw [Ad.mk.injEq]
      refine ⟨rfl, ?_, rfl⟩
      show b.hi / 2 ^ (63 - i) = b.hi / 2 ^ (64 - i) * 2 + b.hi / 2 ^ (63 - i) % 2
      conv => lhs; rw [half_bit b.hi (63 - i)]
      rw [show 63 - i + 1 = 64 - i by omega]
    · rw [if_neg h, if_neg (by omega), if_neg h, show 128 - (i + 1) = 127 - i by omega]
      by_cases h64 : i ≤ 64
      · obtain rfl : i = 64 := by omega
        rw [if_pos (by omega), Ad.mk.injEq]
        refine ⟨rfl, by simp, ?_⟩
        show b.lo / 2 ^ 63 = 0 * 2 + b.lo / 2 ^ 63 % 2
        have : b.lo / 2 ^ 63 < 2 := by
          rw [Nat.div_lt_iff_lt_mul (Nat.two_pow_pos 63)]
          have e : (2 : Nat) * 2 ^ 63 = 18446744073709551616 := by decide
          rw [e]; exact h2
        omega
      · rw [if_neg h64, Ad.mk.injEq]
        refine ⟨rfl, rfl, ?_⟩
        show b.lo / 2 ^ (127 - i) = b.lo / 2 ^ (128 - i) * 2 + b.lo / 2 ^ (127 - i) % 2
        conv => lhs; rw [half_bit b.lo (127 - i)]
        rw [show 127 - i + 1 = 128 - i by omega]
theorem ofAt_zero {b : Ad} (ho : b.ok) (hv : validA b = true) : ofAt b 0 = ⟨b.six, 0, 0⟩ := by
  obtain ⟨h1, h2⟩ := ho
  unfold ofAt
  cases hs : b.six with
  | false =>
    unfold validA at hv
    rw [hs] at hv
    simp at hv
    simp only [Bool.false_eq_true, if_false]
    rw [Nat.div_eq_of_lt (by have : (2 : Nat) ^ (32 - 0) = 4294967296 := by decide
                             omega)]
  | true =>
    simp only [if_true]
    rw [if_pos (by omega), Nat.div_eq_of_lt (by have : (2 : Nat) ^ (64 - 0) = 18446744073709551616 := by decide
                                                omega)]
theorem ofAt_all {b : Ad} (hv : validA b = true) : ofAt b (widthA b) = b := by
  obtain ⟨s, hi, lo⟩ := b
  unfold ofAt widthA validA at *
  cases s with
  | false => simp at hv ⊢; exact hv.1.symm
  | true => simp
end Go.Proofs.YtejddfgmfdpnfaaDoor
namespace Go.Proofs.YtejddfgmfdpnfaaDoor
open Go.RowKit

def adV (a : Ad) : Value := .agg #[.bool a.six, .int .u64 (a.hi : Int), .int .u64 (a.lo : Int)]
theorem eql_ad (x y : Ad) (w : World) : (binOp .eql 25 (adV x) (adV y)).run Tryd.prog w = .ok (.bool (decide (x = y))) w := by
  have hS : Tryd.prog.underlying 25 = some (.struct (Tryd.prog.fieldsOf 25)) := by kernel_rfl
  have hp : Tryd.prog.stoodInHeld 25 = false := by kernel_rfl
  have u3 := Tryd.underlying23
  have u4 := Tryd.underlying4
  have a3 := Tryd.isAgg23
  have a4 := Tryd.isAgg4
  have z3 := Tryd.sizeOf23
  have z4 := Tryd.sizeOf4
  unfold adV
  rw [run_eql_struct, show (10000 : Nat) = 9999 + 1 from rfl, run_equalIn_agg w 9999 25 _ _ hS hp]
  simp only [Program.fieldsOf, Tryd.underlying25]
  go_simp
  obtain ⟨s1, h1, l1⟩ := x
  obtain ⟨s2, h2, l2⟩ := y
  by_cases e1 : s1 = s2 <;> by_cases e2 : h1 = h2 <;> by_cases e3 : l1 = l2 <;> simp [e1, e2, e3] <;> omega
theorem guard_ad (o : BinOp) (X Y : Operand) (x y : Ad) (w : World) : (eqGuard o 25 X Y (adV x) (adV y)).run Tryd.prog w = .ok () w :=
  run_eqGuard_agg w o _ X Y _ _ (by kernel_rfl)
end Go.Proofs.YtejddfgmfdpnfaaDoor
namespace Go.Proofs.YtejddfgmfdpnfaaDoor
open Go.RowKit Go.ChangeShapes Go.WideShapes Go.Deep

/-- The cells cs are a value of type t that can be read in w. -/
def Rd (P : Program) (w : World) (t : TypeId) (cs : List Value) : Prop :=
  ∃ (H : Type) (enc : TypeId × Value → H) (base : Nat) (spare : Nat → Bool) (held : Bool) (fuel : Nat) (x : DataW H × List MemPlace), DataW.trod enc P w base spare held fuel t cs = some x ∧ ∀ p ∈ x.2, p.block < w.heap.size

section
variable {P : Program} {w : World} {t : TypeId} {cs : List Value}

theorem Rd.of {H : Type} {enc : TypeId × Value → H} {base : Nat} {spare : Nat → Bool} {held : Bool} {v : Value} {d : DataW H} {ps : List MemPlace} (h : DataW.Trod enc P w base spare held t v d ps) (hl : ∀ p ∈ ps, p.block < w.heap.size) : Rd P w t v.cells.toList := by
  obtain ⟨fuel, hf⟩ := h
  exact ⟨H, enc, base, spare, held, fuel, _, hf, hl⟩

theorem Rd.int_ {k : IntKind} (ht : P.underlying t = some (.int k)) (h : Rd P w t cs) : ∃ n, cs = [.int k n] ∧ (Lit.int k n).wf = true := by
  obtain ⟨H, enc, base, spare, held, fuel, x, hf, _⟩ := h
  obtain ⟨n, hc, _, hw⟩ := DataW.trod_int ht hf
  exact ⟨n, hc, hw⟩

theorem Rd.i64_ (ht : P.underlying t = some (.int .i64)) (h : Rd P w t cs) : ∃ n : Int, cs = [.int .i64 n] ∧ -9223372036854775808 ≤ n ∧ n ≤ 9223372036854775807 := by
  obtain ⟨n, hc, hw⟩ := h.int_ ht
  have h1 : IntKind.i64.min = -9223372036854775808 := rfl
  have h2 : IntKind.i64.max = 9223372036854775807 := rfl
  simp only [Lit.wf, Bool.and_eq_true, decide_eq_true_eq] at hw
  exact ⟨n, hc, by omega, by omega⟩

theorem Rd.u64_ (ht : P.underlying t = some (.int .u64)) (h : Rd P w t cs) : ∃ n : Nat, cs = [.int .u64 (n : Int)] ∧ n < 18446744073709551616 := by
  obtain ⟨n, hc, hw⟩ := h.int_ ht
  have h1 : IntKind.u64.min = 0 := rfl
  have h2 : IntKind.u64.max = 18446744073709551615 := rfl
  simp only [Lit.wf, Bool.and_eq_true, decide_eq_true_eq] at hw
  exact ⟨n.toNat, by rw [hc, Int.toNat_of_nonneg (by omega)], by omega⟩

theorem Rd.bool_ (ht : P.underlying t = some .bool) (h : Rd P w t cs) : ∃ b, cs = [.bool b] := by
  obtain ⟨H, enc, base, spare, held, fuel, x, hf, _⟩ := h
  obtain ⟨n, hc, _⟩ := DataW.trod_bool ht hf
  exact ⟨n, hc⟩

theorem Rd.string_ (ht : P.underlying t = some .string) (h : Rd P w t cs) : ∃ s : ByteArray, cs = [.string s] ∧ s.size ≤ 9223372036854775807 := by
  obtain ⟨H, enc, base, spare, held, fuel, x, hf, _⟩ := h
  obtain ⟨n, hc, _, hl⟩ := DataW.trod_string ht hf
  exact ⟨n, hc, hl⟩

theorem Rd.struct_ {fs : Array Field} (ht : P.underlying t = some (.struct fs)) (h : Rd P w t cs) :
    cs.length = P.cellsOf t ∧ ∀ (i : Nat) (f : Field), fs[i]? = some f → Rd P w f.type ((cs.drop f.offset).take (P.cellsOf f.type)) := by
  obtain ⟨H, enc, base, spare, held, fuel, x, hf, hp⟩ := h
  obtain ⟨xs, n, _, hx, hl, hxl, hi⟩ := DataW.trod_struct ht hf
  refine ⟨hl, fun i f hfi => ?_⟩
  have h1 := hi i f hfi
  have hlt : i < xs.length := by rw [hxl]; exact (Array.getElem?_eq_some_iff.1 hfi).1
  rw [List.getElem?_eq_getElem hlt] at h1
  refine ⟨H, enc, base, spare, held, n, _, h1, fun p hm => hp p ?_⟩
  subst hx
  exact List.mem_flatMap.2 ⟨_, List.getElem_mem hlt, hm⟩

theorem Rd.slice_ {e : TypeId} (ht : P.underlying t = some (.slice e)) (hpos : 0 < P.cellsOf e) (h : Rd P w t cs) :
    ∃ (A : Option Addr) (len cap : Nat), cs = [.slice A len cap] ∧ len ≤ cap ∧ cap ≤ 9223372036854775807 ∧ (A = none → len = 0 ∧ cap = 0) ∧
      (0 < len → ∃ b off, A = some ⟨b, off, none⟩ ∧ b < w.heap.size ∧
        ∀ i, i < len → ∃ cs', cs'.length = P.cellsOf e ∧ (∀ j v, cs'[j]? = some v → w.cell? ⟨b, off + (i * P.cellsOf e + j), none⟩ = some v) ∧ Rd P w e cs') := by
  obtain ⟨H, enc, base, spare, held, fuel, x, hf, hp⟩ := h
  rcases open_slice ht hf with ⟨rfl, _⟩ | ⟨a, len, cap, m, n, D, Pl, rfl, hb, hlc, hcm, hm, hx, hi⟩
  · exact ⟨none, 0, 0, rfl, Nat.le_refl _, by omega, fun _ => ⟨rfl, rfl⟩, fun h => absurd h (by omega)⟩
  · refine ⟨some a, len, cap, rfl, hlc, hcm, nofun, fun hpl => ?_⟩
    have hlm : len ≤ m := by rw [hm]; split <;> omega
    obtain ⟨b, off, spot⟩ := a
    have hspot : spot = none := by
      obtain ⟨cs', hc, _⟩ := hi 0 (by omega)
      obtain ⟨_, hcl, hat⟩ := World.cells?_some hc
      have h0 := hat 0 hpos
      rw [List.getElem?_eq_getElem (by omega)] at h0
      simpa [Addr.add] using World.cell?_spot h0
    subst hspot
    have hadd : ∀ o k, (⟨b, o, none⟩ : Addr).add k = ⟨b, o + k, none⟩ := fun o k => by
      unfold Addr.add
      by_cases h0 : k = 0
      · subst h0; simp
      · rw [if_neg h0]
    have hblt : b < w.heap.size := by
      refine hp (.cell b off) ?_
      subst hx
      refine List.mem_append_left _ ?_
      have hpos' : 0 < m * P.cellsOf e := Nat.mul_pos (by omega) hpos
      unfold MemPlace.row
      exact List.mem_map.2 ⟨0, List.mem_range.2 hpos', rfl⟩
    refine ⟨b, off, rfl, hblt, fun i hil => ?_⟩
    obtain ⟨cs', hc, ht'⟩ := hi i (by omega)
    obtain ⟨_, hcl, hat⟩ := World.cells?_some hc
    refine ⟨cs', hcl, fun j v hv => ?_, H, enc, base, spare, held, n, _, ht', fun p hpm => hp p ?_⟩
    · have hj : j < cs'.length := (List.getElem?_eq_some_iff.1 hv).1
      have := hat j (by omega)
      rw [hv, hadd, hadd] at this
      rw [← Nat.add_assoc]
      exact this
    · subst hx
      exact List.mem_append_right _ (List.mem_flatMap.2 ⟨i, List.mem_range.2 (by omega), hpm⟩)
end

end Go.Proofs.YtejddfgmfdpnfaaDoor
namespace Go.Proofs.YtejddfgmfdpnfaaDoor
open Go.RowKit

theorem retb {a b : Bool} (h : a = b) : Ending.returned (.bool a) = .returned (.bool b) := by rw [h]
/-- No block that was there has turned. -/
def N0 : Nat → Prop := fun _ => False
theorem fst_eq {n k s : Nat} {m : Int} (hn : n < 18446744073709551616) (hs : k - (min (max m 0) (k : Int)).toNat = s) : IntKind.u64.wrap ((n : Int) / 2 ^ s * 2 ^ s) = ((first n m k : Nat) : Int) := by
  have h := first_le n m k
  have e : (n : Int) / 2 ^ s * 2 ^ s = ((first n m k : Nat) : Int) := by
    unfold first
    rw [hs]
    simp
  rw [e, IntWalk.u64_in _ (by omega)]
theorem fst_id {n k : Nat} {m : Int} (hn : n < 18446744073709551616) (hs : k - (min (max m 0) (k : Int)).toNat = 0) : IntKind.u64.wrap (n : Int) = ((first n m k : Nat) : Int) := by
  have := fst_eq hn hs
  simpa using this
section
variable {w : World}
set_option maxHeartbeats 1600000 in
theorem aval (a : Ad) : Calls Tryd.prog 18 #[adV a] w fun e w' => e = .returned (.bool (validA a)) ∧ Fr N0 w w' := by
  obtain ⟨s, h, l⟩ := a
  cases s with
  | true =>
    go_enter Tryd.func18, Tryd.ntmps18
    unfold adV
    go_wp2_with fail
    go_ret
    exact ⟨retb (by simp [validA]), (Fr.refl _ _).alloc _⟩
  | false =>
    by_cases e : h = 0
    · subst e
      go_enter Tryd.func18, Tryd.ntmps18
      unfold adV
      go_wp2_with fail
      go_ret
      exact ⟨retb (by simp [validA]; omega), (Fr.refl _ _).alloc _⟩
    · have e1 : decide ((h : Int) = 0) = false := by simp; omega
      go_enter Tryd.func18, Tryd.ntmps18
      unfold adV
      go_wp2_with fail
      go_ret
      exact ⟨retb (by simp [validA, e]), (Fr.refl _ _).alloc _⟩
end
end Go.Proofs.YtejddfgmfdpnfaaDoor
namespace Go.Proofs.YtejddfgmfdpnfaaDoor
open Go.RowKit
theorem Blk.alloc2 (w : World) (A : Obj) (t : TypeId) (cs : Array Value) : Blk ((w.alloc A).alloc (.cells cs t)) (w.heap.size + 1) t cs := heap_alloc2_new w A _
/-- A result that lies in a block. -/
theorem ret_cell {fn : Func} {p : Tmp} {ty : TypeId} {tmps cs : Array Value} {w : World} {g : Nat} {fs} {R : Ending → World → Prop} (hr : fn.results = #[.cell p ty]) (hp : tmps.getD p undef = .pointer (some ⟨g, 0, none⟩)) (hb : Blk w g ty cs)
    (hu : Tryd.prog.underlying ty = some (.struct fs)) (hi : (Tryd.prog.info? ty).map (·.size) = some cs.size) (hR : R (.returned (.agg cs)) w) : bodyPost Tryd.prog fn R .ret ⟨tmps, []⟩ w :=
  bodyPost_ret_by (results_cell_row hr tmps w g ty cs (0, 0) _ hp hb hu rfl hi) rfl hR
section
variable {w : World}
end
end Go.Proofs.YtejddfgmfdpnfaaDoor
namespace Go.Proofs.YtejddfgmfdpnfaaDoor
open Go.RowKit
/-- A world that differs from w by new blocks alone. -/
def Fam (w : World) : Type := { W : World // Fr N0 w W }
def Fam.w {w : World} (x : Fam w) : World := x.1
theorem Fam.fr {w : World} (x : Fam w) : Fr N0 w x.w := x.2
instance famSome (w : World) : Nonempty (Fam w) := ⟨⟨w, Fr.refl _ _⟩⟩
theorem fam_call {P : Program} {f : FuncId} {args : Array Value} {w : World} {x : Fam w} {v : Value} (h : Calls P f args x.w fun e W => e = .returned v ∧ Fr N0 x.w W) :
    Calls P f args x.w fun e W => e = .returned v ∧ ∃ y : Fam w, W = y.w :=
  h.mono fun _ W ⟨he, hf⟩ => ⟨he, ⟨W, x.fr.trans hf⟩, rfl⟩
theorem fam_same {P : Program} {f : FuncId} {args : Array Value} {w : World} {x : Fam w} {v : Value} (h : Calls P f args x.w fun e W => e = .returned v ∧ x.w = W) :
    Calls P f args x.w fun e W => e = .returned v ∧ ∃ y : Fam w, W = y.w :=
  h.mono fun _ _ ⟨he, hf⟩ => ⟨he, x, hf.symm⟩
theorem wp_region_fam {P : Program} {id : Nat} {Q : Exit → Act → World → Prop} {a : Act} {w : World} {l : List Oper} (hm : P.follows .mixedOrders = true) (hB : Region.lexB .any l.toArray = true)
    (h : wpQuiet P l.toArray (fun w' => ∃ x : Fam w, w' = x.w) (fun a' => ∀ w', (∃ x : Fam w, w' = x.w) → Q .normal a' w') l a) : (Code.region id l.toArray true).wp P Q a w :=
  wp_region_quiet (C := fun w' => ∃ x : Fam w, w' = x.w) hm hB ⟨⟨w.drew, (Fr.refl _ _).drew⟩, rfl⟩ (by simpa using h)
theorem Blk.c1 {w : World} {g : Nat} {t : TypeId} {a : Value} (k : Blk w g t #[a]) : w.cell? ⟨g, 0, none⟩ = some a := k.cell 0
theorem Blk.c2 {w : World} {g : Nat} {t : TypeId} {a b : Value} (k : Blk w g t #[a, b]) : w.cell? ⟨g, 0, none⟩ = some a ∧ w.cell? ⟨g, 1, none⟩ = some b := ⟨k.cell 0, k.cell 1⟩
theorem Blk.c3 {w : World} {g : Nat} {t : TypeId} {a b c : Value} (k : Blk w g t #[a, b, c]) : w.cell? ⟨g, 0, none⟩ = some a ∧ w.cell? ⟨g, 1, none⟩ = some b ∧ w.cell? ⟨g, 2, none⟩ = some c := ⟨k.cell 0, k.cell 1, k.cell 2⟩
theorem Blk.c4 {w : World} {g : Nat} {t : TypeId} {a b c d : Value} (k : Blk w g t #[a, b, c, d]) : w.cell? ⟨g, 0, none⟩ = some a ∧ w.cell? ⟨g, 1, none⟩ = some b ∧ w.cell? ⟨g, 2, none⟩ = some c ∧ w.cell? ⟨g, 3, none⟩ = some d := ⟨k.cell 0, k.cell 1, k.cell 2, k.cell 3⟩
theorem Blk.alloc3 (w : World) (A B : Obj) (t : TypeId) (cs : Array Value) : Blk (((w.alloc A).alloc B).alloc (.cells cs t)) (w.heap.size + 2) t cs := by
  have h := heap_alloc_new ((w.alloc A).alloc B) (.cells cs t)
  have e : ((w.alloc A).alloc B).heap.size = w.heap.size + 2 := by simp
  rw [e] at h
  exact h
theorem Blk.alloc4 (w : World) (A B C : Obj) (t : TypeId) (cs : Array Value) : Blk ((((w.alloc A).alloc B).alloc C).alloc (.cells cs t)) (w.heap.size + 3) t cs := by
  have h := heap_alloc_new (((w.alloc A).alloc B).alloc C) (.cells cs t)
  have e : (((w.alloc A).alloc B).alloc C).heap.size = w.heap.size + 3 := by simp
  rw [e] at h
  exact h
end Go.Proofs.YtejddfgmfdpnfaaDoor
namespace Go.Proofs.YtejddfgmfdpnfaaDoor
open Go.RowKit
def pxV (p : Px) : Value := .agg #[.bool p.ad.six, .int .u64 (p.ad.hi : Int), .int .u64 (p.ad.lo : Int), .int .i64 p.bits]
structure Px.ok (p : Px) : Prop where
  ad : p.ad.ok
  lo : -9223372036854775808 ≤ p.bits
  hi : p.bits ≤ 9223372036854775807
/-- The cells of a block with an address. -/
def AdX (w : World) (g : Nat) (s : Bool) (h l : Nat) : Prop :=
  w.cell? ⟨g, 0, none⟩ = some (.bool s) ∧ w.cell? ⟨g, 1, none⟩ = some (.int .u64 (h : Int)) ∧ w.cell? ⟨g, 2, none⟩ = some (.int .u64 (l : Int))
/-- The cells of a block with a prefix. -/
def PxX (w : World) (g : Nat) (s : Bool) (h l : Nat) (m : Int) : Prop :=
  w.cell? ⟨g, 0, none⟩ = some (.bool s) ∧ w.cell? ⟨g, 1, none⟩ = some (.int .u64 (h : Int)) ∧ w.cell? ⟨g, 2, none⟩ = some (.int .u64 (l : Int)) ∧ w.cell? ⟨g, 3, none⟩ = some (.int .i64 m)
theorem PxX.fr {w W : World} {g : Nat} {s : Bool} {h l : Nat} {m : Int} {S : Nat → Prop} (k : PxX w g s h l m) (hf : Fr S w W) (hg : g < w.heap.size) (hS : ¬ S g) : PxX W g s h l m :=
  ⟨(hf.cell (p := ⟨g, 0, none⟩) hg hS).trans k.1, (hf.cell (p := ⟨g, 1, none⟩) hg hS).trans k.2.1, (hf.cell (p := ⟨g, 2, none⟩) hg hS).trans k.2.2.1, (hf.cell (p := ⟨g, 3, none⟩) hg hS).trans k.2.2.2⟩
theorem AdX.fr {w W : World} {g : Nat} {s : Bool} {h l : Nat} {S : Nat → Prop} (k : AdX w g s h l) (hf : Fr S w W) (hg : g < w.heap.size) (hS : ¬ S g) : AdX W g s h l :=
  ⟨(hf.cell (p := ⟨g, 0, none⟩) hg hS).trans k.1, (hf.cell (p := ⟨g, 1, none⟩) hg hS).trans k.2.1, (hf.cell (p := ⟨g, 2, none⟩) hg hS).trans k.2.2⟩
theorem PxX.new (w : World) (t : TypeId) (s : Bool) (h l : Nat) (m : Int) : PxX (w.alloc (.cells #[.bool s, .int .u64 (h : Int), .int .u64 (l : Int), .int .i64 m] t)) w.heap.size s h l m :=
  ⟨(Blk.new _ _ _).cell 0, (Blk.new _ _ _).cell 1, (Blk.new _ _ _).cell 2, (Blk.new _ _ _).cell 3⟩
theorem AdX.new (w : World) (t : TypeId) (s : Bool) (h l : Nat) : AdX (w.alloc (.cells #[.bool s, .int .u64 (h : Int), .int .u64 (l : Int)] t)) w.heap.size s h l :=
  ⟨(Blk.new _ _ _).cell 0, (Blk.new _ _ _).cell 1, (Blk.new _ _ _).cell 2⟩
theorem size_new (w : World) (o : Obj) : w.heap.size < (w.alloc o).heap.size := by simp
section
variable {w : World}
end
end Go.Proofs.YtejddfgmfdpnfaaDoor
namespace Go.Proofs.YtejddfgmfdpnfaaDoor
open Go.RowKit
theorem ret_cell2 {fn : Func} {p u : Tmp} {ty : TypeId} {tmps cs : Array Value} {w : World} {g : Nat} {fs} {R : Ending → World → Prop} (hr : fn.results = #[.cell p ty, .tmp u]) (hp : tmps.getD p undef = .pointer (some ⟨g, 0, none⟩)) (hb : Blk w g ty cs)
    (hu : Tryd.prog.underlying ty = some (.struct fs)) (hi : (Tryd.prog.info? ty).map (·.size) = some cs.size) (hR : R (.returned (.tuple #[.agg cs, tmps.getD u undef])) w) : bodyPost Tryd.prog fn R .ret ⟨tmps, []⟩ w := by
  refine bodyPost_ret_by ?_ rfl hR
  rw [results_cell_tmp hr, hp]
  simp [asAddr, Result.andThen, run_loadVar_row w g ty ty cs (0, 0) _ hb hu rfl hi]
def ofP (a : Ad) (m : Int) : Px × Int := if validA a = true ∧ 0 ≤ m ∧ m ≤ (widthA a : Int) then (⟨cutA a m, m⟩, 0) else (⟨⟨false, 0, 0⟩, 0⟩, 1)
theorem Blk.row {w : World} {g : Nat} {t : TypeId} {old : Array Value} (k : Blk w g t old) (cs : Array Value) : Blk (w.setRow g cs) g t cs := setRow_heap w g old cs t (0, 0) k
theorem Fr.setRow {S : Nat → Prop} {a w : World} (h : Fr S a w) {g : Nat} (hg : S g ∨ a.heap.size ≤ g) (cs : Array Value) : Fr S a (w.setRow g cs) :=
  ⟨h.os, h.tape, h.output, by simpa using h.size, fun i hi hn => (setRow_other w g i cs (by
    rintro rfl
    rcases hg with hp | hp
    · exact hn hp
    · omega)).trans (h.block i hi hn)⟩
theorem Blk.adx {w : World} {g : Nat} {t : TypeId} {s : Bool} {h l : Nat} (k : Blk w g t #[.bool s, .int .u64 (h : Int), .int .u64 (l : Int)]) : AdX w g s h l := ⟨k.cell 0, k.cell 1, k.cell 2⟩
theorem Blk.pxx {w : World} {g : Nat} {t : TypeId} {s : Bool} {h l : Nat} {m : Int} (k : Blk w g t #[.bool s, .int .u64 (h : Int), .int .u64 (l : Int), .int .i64 m]) : PxX w g s h l m := ⟨k.cell 0, k.cell 1, k.cell 2, k.cell 3⟩
section
variable {w : World}
end
end Go.Proofs.YtejddfgmfdpnfaaDoor
namespace Go.Proofs.YtejddfgmfdpnfaaDoor
open Go.RowKit
theorem ad_eql_lit {s1 s2 : Bool} {h1 h2 l1 l2 : Nat} (W : World) : Sem.run Tryd.prog (binOp .eql 25 (.agg #[.bool s1, .int .u64 (h1 : Int), .int .u64 (l1 : Int)]) (.agg #[.bool s2, .int .u64 (h2 : Int), .int .u64 (l2 : Int)])) W = .ok (.bool (decide ((⟨s1, h1, l1⟩ : Ad) = ⟨s2, h2, l2⟩))) W := eql_ad ⟨s1, h1, l1⟩ ⟨s2, h2, l2⟩ W
theorem ad_guard_lit {s1 s2 : Bool} {h1 h2 l1 l2 : Nat} (X Y : Operand) (W : World) : Sem.run Tryd.prog (eqGuard .eql 25 X Y (.agg #[.bool s1, .int .u64 (h1 : Int), .int .u64 (l1 : Int)]) (.agg #[.bool s2, .int .u64 (h2 : Int), .int .u64 (l2 : Int)])) W = .ok () W := guard_ad .eql X Y ⟨s1, h1, l1⟩ ⟨s2, h2, l2⟩ W
section
variable {w : World}
end
end Go.Proofs.YtejddfgmfdpnfaaDoor
namespace Go.Proofs.YtejddfgmfdpnfaaDoor
open Go.RowKit
section
variable {w : World}
set_option maxHeartbeats 1600000 in
set_option maxRecDepth 100000 in
theorem ales_ (a b : Ad) (ha : a.ok) (hb : b.ok) : Calls Tryd.prog 26 #[adV a, adV b] w fun e w' => e = .returned (.bool (ltA a b)) ∧ Fr N0 w w' := by
  obtain ⟨s, h, l⟩ := a
  obtain ⟨s', h', l'⟩ := b
  obtain ⟨ha1, ha2⟩ := ha
  obtain ⟨hb1, hb2⟩ := hb
  simp only at ha1 ha2 hb1 hb2
  have c29 : ∀ (w : World) {b : Bool}, validA ⟨s, h, l⟩ = b → Calls Tryd.prog 18 #[.agg #[.bool s, .int .u64 (h : Int), .int .u64 (l : Int)]] w fun e w' => e = .returned (.bool b) ∧ Fr N0 w w' := fun w b hb => hb ▸ aval (w := w) ⟨s, h, l⟩
  have d29 : ∀ (w : World) {b : Bool}, validA ⟨s', h', l'⟩ = b → Calls Tryd.prog 18 #[.agg #[.bool s', .int .u64 (h' : Int), .int .u64 (l' : Int)]] w fun e w' => e = .returned (.bool b) ∧ Fr N0 w w' := fun w b hb => hb ▸ aval (w := w) ⟨s', h', l'⟩
  obtain ⟨d, hdd⟩ : ∃ d, d = decide ((⟨s, h, l⟩ : Ad) = ⟨s', h', l'⟩) := ⟨_, rfl⟩
  have HDD := Lib.hid hdd
  have E : ∀ W, Sem.run Tryd.prog (binOp .eql 25 (.agg #[.bool s, .int .u64 (h : Int), .int .u64 (l : Int)]) (.agg #[.bool s', .int .u64 (h' : Int), .int .u64 (l' : Int)])) W = .ok (.bool d) W := fun W => by rw [hdd]; exact ad_eql_lit W
  have EG : ∀ X Y W, Sem.run Tryd.prog (eqGuard .eql 25 X Y (.agg #[.bool s, .int .u64 (h : Int), .int .u64 (l : Int)]) (.agg #[.bool s', .int .u64 (h' : Int), .int .u64 (l' : Int)])) W = .ok () W := fun X Y W => ad_guard_lit X Y W
  clear hdd
  have key : ∀ b b' r, validA ⟨s, h, l⟩ = b → validA ⟨s', h', l'⟩ = b' → ltA ⟨s, h, l⟩ ⟨s', h', l'⟩ = r → ((b = false ∧ r = false) ∨ (b = true ∧ b' = false ∧ r = false) ∨ (b = true ∧ b' = true ∧ d = true ∧ r = false)
      ∨ (b = true ∧ b' = true ∧ d = false ∧ s = true ∧ s' = false ∧ r = false) ∨ (b = true ∧ b' = true ∧ d = false ∧ s = false ∧ s' = true ∧ r = true)
      ∨ (b = true ∧ b' = true ∧ d = false ∧ s = s' ∧ h ≠ h' ∧ (h : Int) ≠ (h' : Int) ∧ r = decide (h < h')) ∨ (b = true ∧ b' = true ∧ d = false ∧ s = s' ∧ h = h' ∧ r = decide (l < l'))) →
      Calls Tryd.prog 26 #[adV ⟨s, h, l⟩, adV ⟨s', h', l'⟩] w fun e w' => e = .returned (.bool r) ∧ Fr N0 w w' := by
    rintro b b' r e1 e2 er hc
    have k29 := fun w => c29 w e1
    have q29 := fun w => d29 w e2
    clear c29 d29 e1 e2 er
    go_enter Tryd.func26, Tryd.ntmps26
    unfold adV
    go_wp2_with fail
    have HA1 := Lib.hid ((Blk.new w 25 #[Value.bool s, Value.int .u64 (h : Int), Value.int .u64 (l : Int)]).alloc (.cells #[Value.bool s', Value.int .u64 (h' : Int), Value.int .u64 (l' : Int)] 25))
    have HA2 := Lib.hid (Blk.alloc2 w (.cells #[Value.bool s, Value.int .u64 (h : Int), Value.int .u64 (l : Int)] 25) 25 #[Value.bool s', Value.int .u64 (h' : Int), Value.int .u64 (l' : Int)])
    have HF1 := Lib.hid (Fr.alloc (Fr.alloc (Fr.refl N0 w) (.cells #[Value.bool s, Value.int .u64 (h : Int), Value.int .u64 (l : Int)] 25)) (.cells #[Value.bool s', Value.int .u64 (h' : Int), Value.int .u64 (l' : Int)] 25))
    generalize World.alloc (w.alloc _) _ = w1 at *
    obtain ⟨g2, hg2⟩ : ∃ g2, g2 = w.heap.size + 1 := ⟨_, rfl⟩
    rw [← hg2] at HA2 ⊢
    have HG2 : Hid (w.heap.size ≤ g2) := Lib.hid (by omega)
    obtain ⟨g1, hg1⟩ : ∃ g1, g1 = w.heap.size := ⟨_, rfl⟩
    rw [← hg1] at HA1 ⊢
    have HG1 : Hid (w.heap.size ≤ g1) := Lib.hid (by omega)
    have HN1_2 : Hid (g1 ≠ g2) := Lib.hid (by omega)
    clear hg1 hg2
    have HZ1 : Hid (∀ W, Fr N0 w1 W → Blk W g1 25 #[Value.bool s, Value.int .u64 (h : Int), Value.int .u64 (l : Int)]) := Lib.hid fun W hf => HA1.out.fr hf id
    have HZ2 : Hid (∀ W, Fr N0 w1 W → Blk W g2 25 #[Value.bool s', Value.int .u64 (h' : Int), Value.int .u64 (l' : Int)]) := Lib.hid fun W hf => HA2.out.fr hf id
    have F := Lib.hid (Fr.refl N0 w1)
    obtain ⟨z1_0, z1_1, z1_2⟩ := (HZ1.out _ F.out).c3
    obtain ⟨z2_0, z2_1, z2_2⟩ := (HZ2.out _ F.out).c3
    rcases hc with ⟨rfl, he⟩ | ⟨rfl, rfl, he⟩ | ⟨rfl, rfl, rfl, he⟩ | ⟨rfl, rfl, rfl, rfl, rfl, he⟩ | ⟨rfl, rfl, rfl, rfl, rfl, he⟩ | ⟨rfl, rfl, rfl, rfl, hn, hn', he⟩ | ⟨rfl, rfl, rfl, rfl, rfl, he⟩
    all_goals
      have HE := Lib.hid he
      clear he
      go_wp2_with (first
        | (go_at_call_of 18 l; refine (k29 _).mono ?_; rintro e w2 ⟨rfl, hf⟩; have F := Lib.hid (F.out.trans hf); obtain ⟨z1_0, z1_1, z1_2⟩ := (HZ1.out _ F.out).c3; obtain ⟨z2_0, z2_1, z2_2⟩ := (HZ2.out _ F.out).c3)
        | (go_at_call_of 18 l'; refine (q29 _).mono ?_; rintro e w2 ⟨rfl, hf⟩; have F := Lib.hid (F.out.trans hf); obtain ⟨z1_0, z1_1, z1_2⟩ := (HZ1.out _ F.out).c3; obtain ⟨z2_0, z2_1, z2_2⟩ := (HZ2.out _ F.out).c3))
      go_ret
      exact ⟨retb HE.out.symm, HF1.out.trans F.out⟩
  refine key _ _ _ rfl rfl rfl ?_
  have hd := HDD.out
  unfold ltA
  cases h1 : validA ⟨s, h, l⟩ with
  | false => exact .inl ⟨rfl, by simp⟩
  | true =>
    cases h2 : validA ⟨s', h', l'⟩ with
    | false => exact .inr (.inl ⟨rfl, rfl, by simp⟩)
    | true =>
      by_cases h3 : (⟨s, h, l⟩ : Ad) = ⟨s', h', l'⟩
      · exact .inr (.inr (.inl ⟨rfl, rfl, by rw [hd]; simpa using h3, by simp [h3]⟩))
      · have h3' : d = false := by rw [hd]; exact decide_eq_false h3
        rw [if_neg (by simpa using h3)]
        by_cases h4 : s = s'
        · rw [if_neg (by simpa using h4)]
          by_cases h5 : h = h'
          · rw [if_neg (by simpa using h5)]
            exact .inr (.inr (.inr (.inr (.inr (.inr ⟨rfl, rfl, h3', h4, h5, rfl⟩)))))
          · rw [if_pos (by simpa using h5)]
            exact .inr (.inr (.inr (.inr (.inr (.inl ⟨rfl, rfl, h3', h4, h5, by omega, rfl⟩)))))
        · rw [if_pos (by simpa using h4)]
          cases s <;> cases s'
          · exact absurd rfl h4
          · exact .inr (.inr (.inr (.inr (.inl ⟨rfl, rfl, h3', rfl, rfl, rfl⟩))))
          · exact .inr (.inr (.inr (.inl ⟨rfl, rfl, h3', rfl, rfl, rfl⟩)))
          · exact absurd rfl h4
end
end Go.Proofs.YtejddfgmfdpnfaaDoor
namespace Go.Proofs.YtejddfgmfdpnfaaDoor
open Go.RowKit
def halvesP (p : Px) : Px × Px × Int := if fullP p = true then (⟨⟨false, 0, 0⟩, 0⟩, ⟨⟨false, 0, 0⟩, 0⟩, 1) else (lowP p, highP p, 0)
theorem ret_cell3 {fn : Func} {p q u : Tmp} {ty : TypeId} {tmps cs ds : Array Value} {w : World} {g g' : Nat} {fs} {R : Ending → World → Prop} (hr : fn.results = #[.cell p ty, .cell q ty, .tmp u]) (hp : tmps.getD p undef = .pointer (some ⟨g, 0, none⟩)) (hq : tmps.getD q undef = .pointer (some ⟨g', 0, none⟩))
    (hb : Blk w g ty cs) (hc : Blk w g' ty ds) (hu : Tryd.prog.underlying ty = some (.struct fs)) (hi : (Tryd.prog.info? ty).map (·.size) = some cs.size) (hi' : (Tryd.prog.info? ty).map (·.size) = some ds.size)
    (hR : R (.returned (.tuple #[.agg cs, .agg ds, tmps.getD u undef])) w) : bodyPost Tryd.prog fn R .ret ⟨tmps, []⟩ w := by
  refine bodyPost_ret_by ?_ rfl hR
  have hp' : tmps[p]?.getD undef = .pointer (some ⟨g, 0, none⟩) := by simpa using hp
  have hq' : tmps[q]?.getD undef = .pointer (some ⟨g', 0, none⟩) := by simpa using hq
  simp [results, hr, Sem.run_bind, hp', hq', asAddr, Result.andThen, run_loadVar_row w g ty ty cs (0, 0) _ hb hu rfl hi, run_loadVar_row w g' ty ty ds (0, 0) _ hc hu rfl hi']
theorem or_bit {n k : Nat} (hn : n < 18446744073709551616) (hk : k ≤ 63) (hd : 2 ^ (k + 1) ∣ n) : bits .or .u64 (n : Int) (IntKind.u64.wrap (2 ^ k)) = ((n + 2 ^ k : Nat) : Int) := by
  have h1 : 2 ^ k < 18446744073709551616 := by rw [p64]; exact Nat.pow_lt_pow_right (by omega) (by omega)
  have e : ((2 : Int) ^ k) = ((2 ^ k : Nat) : Int) := by simp
  rw [e, IntWalk.u64_in _ (by omega), bits_or_u64_nat n (2 ^ k) hn h1]
  obtain ⟨q, rfl⟩ := hd
  congr 1
  have h2 : 2 ^ k < 2 ^ (k + 1) := Nat.pow_lt_pow_right (by omega) (by omega)
  rw [Nat.two_pow_add_eq_or_of_lt h2]
theorem Blk.set4 {w : World} {g : Nat} {t : TypeId} {a b c d : Value} (k : Blk w g t #[a, b, c, d]) (a' b' c' d' : Value) : Blk ((((w.setCell ⟨g, 0, none⟩ a').setCell ⟨g, 1, none⟩ b').setCell ⟨g, 2, none⟩ c').setCell ⟨g, 3, none⟩ d') g t #[a', b', c', d'] := by
  have := (((k.set_ 0 a').set_ 1 b').set_ 2 c').set_ 3 d'
  simpa using this
theorem Blk.far4 {w : World} {g x : Nat} {t : TypeId} {cs : Array Value} (k : Blk w g t cs) (hx : g ≠ x) (a' b' c' d' : Value) : Blk ((((w.setCell ⟨x, 0, none⟩ a').setCell ⟨x, 1, none⟩ b').setCell ⟨x, 2, none⟩ c').setCell ⟨x, 3, none⟩ d') g t cs :=
  (((k.far (p := ⟨x, 0, none⟩) hx a').far (p := ⟨x, 1, none⟩) hx b').far (p := ⟨x, 2, none⟩) hx c').far (p := ⟨x, 3, none⟩) hx d'
theorem first_dvd {n k : Nat} {m : Int} {all : Nat} (h : first n m all = n) (hk : all - (min (max m 0) all).toNat = k) : 2 ^ k ∣ n := by
  unfold first at h
  rw [hk] at h
  exact ⟨_, h.symm.trans (Nat.mul_comm _ _)⟩
theorem two_new {P : Program} {C : Code} {Q : Exit → Act → World → Prop} {a : Act} {X : World} {t : TypeId} {c5 c6 : Array Value}
    (h : ∀ w5, Fr N0 X w5 → Blk w5 X.heap.size t c5 → Blk w5 (X.heap.size + 1) t c6 → C.wp P Q a w5) : C.wp P Q a ((X.alloc (.cells c5 t)).alloc (.cells c6 t)).drew :=
  h _ (by repeat first | exact Fr.refl _ _ | refine Fr.drew ?_ | refine Fr.alloc ?_ _) (((Blk.new X t c5).alloc _).drew) ((Blk.alloc2 X _ t c6).drew)
section
variable {w : World}
end
end Go.Proofs.YtejddfgmfdpnfaaDoor
namespace Go.Proofs.YtejddfgmfdpnfaaDoor
open Go.RowKit

/-- The slice '.slice A n c' owns the cells xs, n elements of type e, of 'size' cells each. -/
def Own (w : World) (e : TypeId) (size : Nat) (A : Option Addr) (n c : Nat) (xs : List Value) : Prop :=
  xs.length = n * size ∧ ((A = none ∧ n = 0 ∧ c = 0) ∨
    ∃ g cur, A = some ⟨g, 0, none⟩ ∧ w.heap[g]? = some (.cells cur e (0, 0)) ∧ n ≤ c ∧ c ≤ maxLen ∧ cur.size = c * size ∧ cur.toList.take (n * size) = xs)

section
variable {w w' : World} {e : TypeId} {size n c : Nat} {A : Option Addr} {xs : List Value} {S : Nat → Prop}
theorem Own.nil_ (w : World) (e : TypeId) (size : Nat) : Own w e size none 0 0 [] := ⟨by simp, .inl ⟨rfl, rfl, rfl⟩⟩
theorem Own.row (h : Own w e size A n c xs) : w.ownsRow 0 e size (.slice A n c) n xs := by
  obtain ⟨hl, h⟩ := h
  refine ⟨hl, ?_⟩
  rcases h with ⟨rfl, rfl, rfl⟩ | ⟨g, cur, rfl, hg, hnc, hcm, hcs, ht⟩
  · exact .inl ⟨rfl, rfl⟩
  · exact .inr ⟨g, c, cur, rfl, Nat.zero_le _, hg, hnc, hcm, hcs, ht⟩
theorem Own.of_row {g : Nat} {base : Nat} (h : w.ownsRow base e size (.slice (some ⟨g, 0, none⟩) n c) n xs) : Own w e size (some ⟨g, 0, none⟩) n c xs := by
  obtain ⟨hl, h⟩ := h
  refine ⟨hl, .inr ?_⟩
  rcases h with ⟨h, _⟩ | ⟨g', cap, cur, hv, _, hg, hnc, hcm, hcs, ht⟩
  · cases h
  · injection hv with h1 h2 h3
    injection h1 with h1
    injection h1 with h1
    subst h1 h3
    exact ⟨g, cur, rfl, hg, hnc, hcm, hcs, ht⟩
theorem Own.fr (h : Own w e size A n c xs) (k : Fr S w w') (hS : ∀ g, A = some ⟨g, 0, none⟩ → ¬ S g) : Own w' e size A n c xs := by
  obtain ⟨hl, h⟩ := h
  refine ⟨hl, ?_⟩
  rcases h with h | ⟨g, cur, rfl, hg, r⟩
  · exact .inl h
  · refine .inr ⟨g, cur, rfl, (k.block g ?_ (hS g rfl)).trans hg, r⟩
    rcases Nat.lt_or_ge g w.heap.size with hlt | hge
    · exact hlt
    · rw [Array.getElem?_eq_none hge] at hg; cases hg
theorem Own.lt (h : Own w e size A n c xs) {g : Nat} (hA : A = some ⟨g, 0, none⟩) : g < w.heap.size := by
  obtain ⟨hl, h⟩ := h
  rcases h with ⟨rfl, _⟩ | ⟨g', cur, rfl, hg, r⟩
  · cases hA
  · injection hA with hA
    injection hA with hA
    subst hA
    rcases Nat.lt_or_ge g' w.heap.size with hlt | hge
    · exact hlt
    · rw [Array.getElem?_eq_none hge] at hg; cases hg
theorem Own.len_le (h : Own w e size A n c xs) : n ≤ c ∧ c ≤ 9223372036854775807 := by
  obtain ⟨hl, h⟩ := h
  rcases h with ⟨rfl, rfl, rfl⟩ | ⟨g', cur, rfl, hg, hnc, hcm, r⟩
  · exact ⟨Nat.le_refl _, by omega⟩
  · exact ⟨hnc, hcm⟩
theorem Own.some_ (h : Own w e size A n c xs) (hn : 0 < n) : ∃ g, A = some ⟨g, 0, none⟩ := by
  obtain ⟨hl, h⟩ := h
  rcases h with ⟨rfl, rfl, rfl⟩ | ⟨g', cur, rfl, _⟩
  · omega
  · exact ⟨g', rfl⟩
theorem Own.cell {g : Nat} (h : Own w e size (some ⟨g, 0, none⟩) n c xs) (j : Nat) (hj : j < n * size) : w.cell? ⟨g, j, none⟩ = xs[j]? := h.row.cellAt j hj
theorem Own.cell_none {g : Nat} (h : Own w e size (some ⟨g, 0, none⟩) n c xs) (j : Nat) : w.frozen? ⟨g, j, none⟩ = false := h.row.frozenAt j
theorem Own.block_ne {g b : Nat} {t : TypeId} {cs : Array Value} (h : Own w e size (some ⟨g, 0, none⟩) n c xs) (hb : Blk w b t cs) (hne : e ≠ t) : g ≠ b := by
  obtain ⟨hl, h⟩ := h
  rcases h with ⟨h, _⟩ | ⟨g', cur, hv, hg, _⟩
  · cases h
  · injection hv with hv
    injection hv with hv
    subst hv
    rintro rfl
    exact Blk.ne_ (t := e) hg hb hne rfl
/-- A store of one cell into what is owned. -/
theorem Own.set_ {g : Nat} (h : Own w e size (some ⟨g, 0, none⟩) n c xs) (j : Nat) (u : Value) : Own (w.setCell ⟨g, j, none⟩ u) e size (some ⟨g, 0, none⟩) n c (xs.set j u) := by
  obtain ⟨hl, h⟩ := h
  refine ⟨by simpa using hl, .inr ?_⟩
  rcases h with ⟨h, _⟩ | ⟨g', cur, hv, hg, hnc, hcm, hcs, ht⟩
  · cases h
  · injection hv with hv
    injection hv with hv
    subst hv
    refine ⟨g, cur.setIfInBounds j u, rfl, ?_, hnc, hcm, by simpa using hcs, ?_⟩
    · simp [World.setCell, Array.getElem?_modify, hg]
    · rw [Array.toList_setIfInBounds, List.take_set, ht]
end

theorem cells_new (w : World) (us : List Value) (t : TypeId) : ∀ j u, us[j]? = some u → (w.alloc (.cells us.toArray t)).cell? ((⟨w.heap.size, 0, none⟩ : Addr).add j) = some u := by
  intro j u hj
  have h := (Blk.new w t us.toArray).cell j
  simp only [List.getElem?_toArray] at h
  rw [hj] at h
  have : (⟨w.heap.size, 0, none⟩ : Addr).add j = ⟨w.heap.size, j, none⟩ := by
    unfold Addr.add
    by_cases h0 : j = 0
    · subst h0; simp
    · rw [if_neg h0]; simp
  rw [this]
  exact h

/-- 'append(s, x)' of one element onto a slice of the call's own: the element lies in a new block already. -/
theorem wpList_append1 {P : Program} (w : World) {ops : Array Oper} {rest : List Oper} {o : Oper} {a : Act} {Q : Exit → Act → World → Prop} (hgd : o.guard = none) (s x : Operand) (t : TypeId)
    (ho : o.op = .call { callee := .builtin .append, args := #[s, x], argTypes := #[t, t] })
    (e : TypeId) (i : TypeInfo) (z : Value) (size bytes : Nat) (ht : P.underlying t = some (.slice e)) (hi : P.info? e = some i) (hz : i.zero = some z)
    (hsize : i.size = size) (hby : i.bytes = bytes) (hzs : z.cells.size = size) (hsz : 0 < size)
    (A : Option Addr) (n c : Nat) (xs : List Value) (hs : a.eval s = .slice A n c) (hown : Own w e size A n c xs)
    (us : List Value) (hx : a.eval x = .slice (some ⟨w.heap.size, 0, none⟩) 1 1) (hl : us.length = size) (h1 : ∀ u ∈ us, u.oneCell' = true)
    (hbytes : (n + 1) * bytes ≤ 140737488355328) (h63 : n + 1 ≤ 9223372036854775807)
    (h : ∀ g' c' w', Own w' e size (some ⟨g', 0, none⟩) (n + 1) c' (xs ++ us) → Fr (fun i => A = some ⟨i, 0, none⟩) w w' → (A = some ⟨g', 0, none⟩ ∨ w.heap.size ≤ g') → wpList P ops Q rest (a.put o.dst (.slice (some ⟨g', 0, none⟩) (n + 1) c')) w') :
    wpList P ops Q (o :: rest) a (w.alloc (.cells us.toArray e)) := by
  refine wpList_append_own_at _ hgd s x t ho 0 e i z size bytes ht hi hz hsize hby hzs hsz _ n xs hs (hown.row.alloc _) ⟨w.heap.size, 0, none⟩ 1 1 us hx (by simp [hl]) (cells_new w us e) h1 h63 hbytes (Nat.zero_le _) ?_
  intro v' w1 hown' hgrow hnil hat
  have hex : ∃ g' c', v' = .slice (some ⟨g', 0, none⟩) (n + 1) c' := by
    rcases hown'.2 with ⟨_, h0⟩ | ⟨g', c', cur, hv, _⟩
    · omega
    · exact ⟨g', c', hv⟩
  obtain ⟨g', c', rfl⟩ := hex
  have hfr : Fr (fun i => A = some ⟨i, 0, none⟩) w w1 := by
    refine Fr.grown ((Fr.refl _ w).alloc _) hgrow fun i hi => ?_
    cases A with
    | none => simp [Value.ownBlock] at hi
    | some ad =>
      left
      simp [Value.ownBlock] at hi
      have hg := (hown.2)
      rcases hg with ⟨h, _⟩ | ⟨g, _, hg, _⟩
      · cases h
      · injection hg with hg
        subst hg
        simp at hi
        rw [hi]
  refine h g' c' w1 (Own.of_row hown') hfr ?_
  rcases hat with hat | hat
  · left
    cases A with
    | none => simp [Value.ownBlock] at hat
    | some ad =>
      rcases hown.2 with ⟨h, _⟩ | ⟨g, _, hg, _⟩
      · cases h
      · injection hg with hg
        subst hg
        simp [Value.ownBlock] at hat
        rw [hat]
  · right
    simp [Value.ownBlock] at hat
    omega
/-- An append at a step of a region that draws its order, by an equation on its run. -/
theorem step_append_run {P : Program} {w : World} {ops : Array Oper} {o : Oper} {a : Act} {K : Act → World → Prop} {Q : Exit → Act → World → Prop} {E : Prop} (hgd : o.guard = none) (s x : Operand) (t : TypeId)
    (ho : o.op = .call { callee := .builtin .append, args := #[s, x], argTypes := #[t, t] }) (v1 v2 v : Value) (w' : World) (hs : a.eval s = v1) (hx : a.eval x = v2)
    (hrun : (Builtin.append_ #[t, t] o.type #[v1, v2]).run P w = .ok v w') (h : K (a.put o.dst v) w') :
    if Region.wanted o (yielded ops a.tmps) = true then Oper.wp P o a w K Q else E := by
  have hw : Region.wanted o (yielded ops a.tmps) = true := by simp [Region.wanted, hgd]
  rw [if_pos hw]
  unfold Oper.wp
  simp [execOp, ho, resolve, invoke, builtin, hs, hx, hrun, Result.andThen]
  exact h
/-- The same as an equation on the run, for a region that draws its order. -/
theorem run_append1 {P : Program} (w : World) (t ty : TypeId)
    (e : TypeId) (i : TypeInfo) (z : Value) (size bytes : Nat) (ht : P.underlying t = some (.slice e)) (hi : P.info? e = some i) (hz : i.zero = some z)
    (hsize : i.size = size) (hby : i.bytes = bytes) (hzs : z.cells.size = size) (hsz : 0 < size)
    (A : Option Addr) (n c : Nat) (xs : List Value) (hown : Own w e size A n c xs)
    (us : List Value) (hl : us.length = size) (h1 : ∀ u ∈ us, u.oneCell' = true)
    (hbytes : (n + 1) * bytes ≤ 140737488355328) (h63 : n + 1 ≤ 9223372036854775807) :
    ∃ g' c' w', (Builtin.append_ #[t, t] ty #[.slice A n c, .slice (some ⟨w.heap.size, 0, none⟩) 1 1]).run P (w.alloc (.cells us.toArray e)) = .ok (.slice (some ⟨g', 0, none⟩) (n + 1) c') w' ∧
      Own w' e size (some ⟨g', 0, none⟩) (n + 1) c' (xs ++ us) ∧ Fr (fun i => A = some ⟨i, 0, none⟩) w w' ∧ (A = some ⟨g', 0, none⟩ ∨ w.heap.size ≤ g') := by
  obtain ⟨v', w1, hrun, hown', hgrow, hnil, hat⟩ := run_append_own_at (P := P) _ 0 t ty e i z size bytes ht hi hz hsize hby hzs hsz _ n xs (hown.row.alloc (.cells us.toArray e)) ⟨w.heap.size, 0, none⟩ 1 1 us (by simp [hl]) (cells_new w us e) h1 h63 hbytes (Nat.zero_le _)
  have hex : ∃ g' c', v' = .slice (some ⟨g', 0, none⟩) (n + 1) c' := by
    rcases hown'.2 with ⟨_, h0⟩ | ⟨g', c', cur, hv, _⟩
    · omega
    · exact ⟨g', c', hv⟩
  obtain ⟨g', c', rfl⟩ := hex
  have hfr : Fr (fun i => A = some ⟨i, 0, none⟩) w w1 := by
    refine Fr.grown ((Fr.refl _ w).alloc _) hgrow fun i hi => ?_
    cases A with
    | none => simp [Value.ownBlock] at hi
    | some ad =>
      left
      simp [Value.ownBlock] at hi
      have hg := (hown.2)
      rcases hg with ⟨h, _⟩ | ⟨g, _, hg, _⟩
      · cases h
      · injection hg with hg
        subst hg
        simp at hi
        rw [hi]
  refine ⟨g', c', w1, hrun, Own.of_row hown', hfr, ?_⟩
  rcases hat with hat | hat
  · left
    cases A with
    | none => simp [Value.ownBlock] at hat
    | some ad =>
      rcases hown.2 with ⟨h, _⟩ | ⟨g, _, hg, _⟩
      · cases h
      · injection hg with hg
        subst hg
        simp [Value.ownBlock] at hat
        rw [hat]
  · right
    simp [Value.ownBlock] at hat
    omega
end Go.Proofs.YtejddfgmfdpnfaaDoor
namespace Go.Proofs.YtejddfgmfdpnfaaDoor
open Go.RowKit
def u8v (x : Nat) : Value := .int .u8 (x : Int)
/-- A slice of bytes of the call's own, made since w. -/
def Bx (w wr : World) (v : Value) (l : List Nat) : Prop :=
  ∃ A c, v = .slice A l.length c ∧ Own wr 5 1 A l.length c (l.map u8v) ∧ (∀ g, A = some ⟨g, 0, none⟩ → w.heap.size ≤ g) ∧ Fr N0 w wr
theorem Bx.nil_ (w : World) : Bx w w (.slice none 0 0) [] := ⟨none, 0, rfl, Own.nil_ _ _ _, nofun, Fr.refl _ _⟩
theorem info5 : (Tryd.prog.info? 5).map (fun i => (i.zero, i.size, i.bytes)) = some (some (.int .u8 0), 1, 1) := by kernel_rfl
theorem Bx.step {w wr w' : World} {A : Option Addr} {g' c' n x : Nat} {l : List Nat} {X : Int} (G1 : ∀ g, A = some ⟨g, 0, none⟩ → w.heap.size ≤ g) (F1 : Fr N0 w wr) (hn : l.length = n)
    (hO' : Own w' 5 1 (some ⟨g', 0, none⟩) (n + 1) c' (l.map u8v ++ [.int .u8 X])) (hF' : Fr (fun i => A = some ⟨i, 0, none⟩) wr w') (hA' : A = some ⟨g', 0, none⟩ ∨ wr.heap.size ≤ g') (hX : X = (x : Int)) :
    Bx w w' (.slice (some ⟨g', 0, none⟩) (n + 1) c') (l ++ [x]) := by
  subst hX
  refine ⟨some ⟨g', 0, none⟩, c', by rw [List.length_append, hn]; rfl, by rw [List.length_append, hn, List.map_append]; exact hO', ?_, F1.step hF' fun i hi => .inr (G1 i hi)⟩
  intro g e
  rcases hA' with h | h
  · exact G1 g (h.trans e)
  · injection e with e
    injection e with e
    rw [← e]
    exact Nat.le_trans F1.size h
theorem Bx.up {w w2 wr : World} {v : Value} {l : List Nat} (k : Bx w2 wr v l) (hF : Fr N0 w w2) : Bx w wr v l := by
  obtain ⟨A, c, h1, h2, h3, h4⟩ := k
  exact ⟨A, c, h1, h2, fun g e => Nat.le_trans hF.size (h3 g e), hF.trans h4⟩
theorem Bx.mk' {w wr : World} {A : Option Addr} {c n : Nat} {L l : List Nat} (hn : L.length = n) (hl : L = l) (hO : Own wr 5 1 A n c (L.map u8v)) (hg : ∀ g, A = some ⟨g, 0, none⟩ → w.heap.size ≤ g) (hF : Fr N0 w wr) : Bx w wr (.slice A n c) l := by
  subst hl hn
  exact ⟨A, c, rfl, hO, hg, hF⟩
theorem bytes_hi {h l : Nat} : bytesA ⟨true, h, l⟩ = (List.range 16).map (byteA ⟨true, h, l⟩) := rfl
theorem bytes_lo {h l : Nat} : bytesA ⟨false, h, l⟩ = (List.range 4).map (byteA ⟨false, h, l⟩) := rfl
section
variable {w : World}
set_option maxHeartbeats 1600000 in
set_option maxRecDepth 100000 in
theorem byt_ (a : Ad) (ho : a.ok) : Calls Tryd.prog 13 #[adV a] w fun e w' => ∃ v, e = .returned v ∧ Bx w w' v (if validA a = true then bytesA a else []) := by
  obtain ⟨s, h, l⟩ := a
  obtain ⟨ho1, ho2⟩ := ho
  simp only at ho1 ho2
  have c29 : ∀ (w : World) {b : Bool}, validA ⟨s, h, l⟩ = b → Calls Tryd.prog 18 #[.agg #[.bool s, .int .u64 (h : Int), .int .u64 (l : Int)]] w fun e w' => e = .returned (.bool b) ∧ Fr N0 w w' := fun w b hb => hb ▸ aval (w := w) ⟨s, h, l⟩
  obtain ⟨i0, hi, hz0, hz1, hz2⟩ := info_parts info5
  by_cases hv : validA ⟨s, h, l⟩ = true
  · rw [if_pos hv]
    have k29 := fun w => c29 w hv
    clear c29 hv
    cases s with
    | false =>
      go_enter Tryd.func13, Tryd.ntmps13
      unfold adV
      go_wp2_with fail
      have HA1 := Lib.hid (Blk.new w 25 #[Value.bool false, Value.int .u64 (h : Int), Value.int .u64 (l : Int)])
      have HF1 := Lib.hid (Fr.alloc (Fr.refl N0 w) (.cells #[Value.bool false, Value.int .u64 (h : Int), Value.int .u64 (l : Int)] 25))
      generalize w.alloc _ = w1 at *
      obtain ⟨g1, hg1⟩ : ∃ g1, g1 = w.heap.size := ⟨_, rfl⟩
      rw [← hg1] at HA1 ⊢
      have HG1 : Hid (w.heap.size ≤ g1) := Lib.hid (by omega)
      clear hg1
      have HZ1 : Hid (∀ W, Fr N0 w1 W → Blk W g1 25 #[Value.bool false, Value.int .u64 (h : Int), Value.int .u64 (l : Int)]) := Lib.hid fun W hf => HA1.out.fr hf id
      have F := Lib.hid (Fr.refl N0 w1)
      obtain ⟨z1_0, z1_1, z1_2⟩ := (HZ1.out _ F.out).c3
      go_wp2_with (first
        | (go_at_call 18; refine (k29 _).mono ?_; rintro e w2 ⟨rfl, hf⟩; have F := Lib.hid (F.out.trans hf); obtain ⟨z1_0, z1_1, z1_2⟩ := (HZ1.out _ F.out).c3))
      have F0 := F
      have HW2 := Lib.hid (HF1.out.trans F.out)
      go_loopw [3, 41] (fun v i wr => ∃ j : Nat, j ≤ 4 ∧ i = .int .i64 (j : Int) ∧ Bx w2 wr v ((List.range j).map (byteA ⟨false, h, l⟩))) (fun _ i _ => 5 - (intOf i).toNat)
      case atStart => exact ⟨0, by omega, rfl, Bx.nil_ _⟩
      case round =>
        obtain ⟨j, hj, rfl, A, c, rfl, hO, hg, hF⟩ := hrel
        obtain ⟨L, hL⟩ : ∃ L, L = (List.range j).map (byteA ⟨false, h, l⟩) := ⟨_, rfl⟩
        rw [← hL] at hO ⊢
        have HLN := Lib.hid (show L.length = j by rw [hL]; simp)
        rw [HLN.out] at hO ⊢
        have HL := Lib.hid hL
        have O1 := Lib.hid hO
        have G1 := Lib.hid hg
        have F1 := Lib.hid hF
        have F := Lib.hid (F0.out.trans hF)
        clear hO hg hF hL
        obtain ⟨z1_0, z1_1, z1_2⟩ := (HZ1.out _ F.out).c3
        by_cases hj4 : j < 4
        · have hjI : (j : Int) < 4 := by omega
          go_wp2_with (at_builtin; refine wpList_append1 wr rfl (.tmp 44) (.tmp 52) 30 rfl 5 i0 (.int .u8 0) 1 1 Tryd.underlying30 hi hz0 hz1 hz2 rfl (by omega) A (j) c _ rfl O1.out [.int .u8 ((l : Int) / 2 ^ (24 - 8 * j) % 256)] rfl rfl ?_ ?_ ?_ ?_)
          · simp [Value.oneCell']
          · omega
          · omega
          · intro g' c' w' hO' hF' hA'
            have HB := Lib.hid (Bx.step G1.out F1.out HLN.out hO' hF' hA' (show _ = ((byteA ⟨false, h, l⟩ (j) : Nat) : Int) by simp [byteA]))
            clear hO' hF' hA'
            go_wp2_with fail
            go_roundw
            case rel => first | exact ⟨j + 1, by omega, by go_num, by rw [List.range_succ, List.map_append, ← HL.out]; exact HB.out⟩ | ((repeat apply Exists.intro); exact ⟨⟨j + 1, by omega, by go_num, by rw [List.range_succ, List.map_append, ← HL.out]; exact HB.out⟩, rfl⟩)
            case measure => simp [intOf]; omega
        · obtain rfl : j = 4 := by omega
          go_wp2_with fail
          go_ret
          exact ⟨_, rfl, (Bx.mk' HLN.out (HL.out.trans bytes_lo.symm) O1.out G1.out F1.out).up HW2.out⟩
    | true =>
      go_enter Tryd.func13, Tryd.ntmps13
      unfold adV
      go_wp2_with fail
      have HA1 := Lib.hid (Blk.new w 25 #[Value.bool true, Value.int .u64 (h : Int), Value.int .u64 (l : Int)])
      have HF1 := Lib.hid (Fr.alloc (Fr.refl N0 w) (.cells #[Value.bool true, Value.int .u64 (h : Int), Value.int .u64 (l : Int)] 25))
      generalize w.alloc _ = w1 at *
      obtain ⟨g1, hg1⟩ : ∃ g1, g1 = w.heap.size := ⟨_, rfl⟩
      rw [← hg1] at HA1 ⊢
      have HG1 : Hid (w.heap.size ≤ g1) := Lib.hid (by omega)
      clear hg1
      have HZ1 : Hid (∀ W, Fr N0 w1 W → Blk W g1 25 #[Value.bool true, Value.int .u64 (h : Int), Value.int .u64 (l : Int)]) := Lib.hid fun W hf => HA1.out.fr hf id
      have F := Lib.hid (Fr.refl N0 w1)
      obtain ⟨z1_0, z1_1, z1_2⟩ := (HZ1.out _ F.out).c3
      go_wp2_with (first
        | (go_at_call 18; refine (k29 _).mono ?_; rintro e w2 ⟨rfl, hf⟩; have F := Lib.hid (F.out.trans hf); obtain ⟨z1_0, z1_1, z1_2⟩ := (HZ1.out _ F.out).c3))
      have F0 := F
      have HW2 := Lib.hid (HF1.out.trans F.out)
      go_loopw [3, 12] (fun v i wr => ∃ j : Nat, j ≤ 8 ∧ i = .int .i64 (j : Int) ∧ Bx w2 wr v ((List.range j).map (byteA ⟨true, h, l⟩))) (fun _ i _ => 9 - (intOf i).toNat)
      case atStart => exact ⟨0, by omega, rfl, Bx.nil_ _⟩
      case round =>
        obtain ⟨j, hj, rfl, A, c, rfl, hO, hg, hF⟩ := hrel
        obtain ⟨L, hL⟩ : ∃ L, L = (List.range j).map (byteA ⟨true, h, l⟩) := ⟨_, rfl⟩
        rw [← hL] at hO ⊢
        have HLN := Lib.hid (show L.length = j by rw [hL]; simp)
        rw [HLN.out] at hO ⊢
        have HL := Lib.hid hL
        have O1 := Lib.hid hO
        have G1 := Lib.hid hg
        have F1 := Lib.hid hF
        have F := Lib.hid (F0.out.trans hF)
        clear hO hg hF hL
        obtain ⟨z1_0, z1_1, z1_2⟩ := (HZ1.out _ F.out).c3
        by_cases hj4 : j < 8
        · have hjI : (j : Int) < 8 := by omega
          go_wp2_with (at_builtin; refine wpList_append1 wr rfl (.tmp 15) (.tmp 23) 30 rfl 5 i0 (.int .u8 0) 1 1 Tryd.underlying30 hi hz0 hz1 hz2 rfl (by omega) A (j) c _ rfl O1.out [.int .u8 ((h : Int) / 2 ^ (56 - 8 * j) % 256)] rfl rfl ?_ ?_ ?_ ?_)
          · simp [Value.oneCell']
          · omega
          · omega
          · intro g' c' w' hO' hF' hA'
            have HB := Lib.hid (Bx.step G1.out F1.out HLN.out hO' hF' hA' (show _ = ((byteA ⟨true, h, l⟩ (j) : Nat) : Int) by simp [byteA, hj4]))
            clear hO' hF' hA'
            go_wp2_with fail
            go_roundw
            case rel => first | exact ⟨j + 1, by omega, by go_num, by rw [List.range_succ, List.map_append, ← HL.out]; exact HB.out⟩ | ((repeat apply Exists.intro); exact ⟨⟨j + 1, by omega, by go_num, by rw [List.range_succ, List.map_append, ← HL.out]; exact HB.out⟩, rfl⟩)
            case measure => simp [intOf]; omega
        · obtain rfl : j = 8 := by omega
          go_wp2_with fail
          have HB8 := Lib.hid (Bx.mk' HLN.out HL.out O1.out G1.out F1.out)
          clear HLN HL O1 G1 F1
          go_loopw [3, 26] (fun v i wr => ∃ j : Nat, j ≤ 8 ∧ i = .int .i64 (j : Int) ∧ Bx w2 wr v ((List.range (8 + j)).map (byteA ⟨true, h, l⟩))) (fun _ i _ => 9 - (intOf i).toNat)
          case atStart => exact ⟨0, by omega, rfl, HB8.out⟩
          case round =>
            obtain ⟨j, hj, rfl, A, c, rfl, hO, hg, hF⟩ := hrel
            obtain ⟨L, hL⟩ : ∃ L, L = (List.range (8 + j)).map (byteA ⟨true, h, l⟩) := ⟨_, rfl⟩
            rw [← hL] at hO ⊢
            have HLN := Lib.hid (show L.length = 8 + j by rw [hL]; simp)
            rw [HLN.out] at hO ⊢
            have HL := Lib.hid hL
            have O1 := Lib.hid hO
            have G1 := Lib.hid hg
            have F1 := Lib.hid hF
            have F := Lib.hid (F0.out.trans hF)
            clear hO hg hF hL
            obtain ⟨z1_0, z1_1, z1_2⟩ := (HZ1.out _ F.out).c3
            by_cases hj4 : j < 8
            · have hjI : (j : Int) < 8 := by omega
              go_wp2_with (at_builtin; refine wpList_append1 wr rfl (.tmp 29) (.tmp 37) 30 rfl 5 i0 (.int .u8 0) 1 1 Tryd.underlying30 hi hz0 hz1 hz2 rfl (by omega) A (8 + j) c _ rfl O1.out [.int .u8 ((l : Int) / 2 ^ (56 - 8 * j) % 256)] rfl rfl ?_ ?_ ?_ ?_)
              · simp [Value.oneCell']
              · omega
              · omega
              · intro g' c' w' hO' hF' hA'
                have HB := Lib.hid (Bx.step G1.out F1.out HLN.out hO' hF' hA' (show _ = ((byteA ⟨true, h, l⟩ (8 + j) : Nat) : Int) by simp [byteA, show 120 - 8 * (8 + j) = 56 - 8 * j by omega, show ¬ (8 + j < 8) by omega]))
                clear hO' hF' hA'
                go_wp2_with fail
                go_roundw
                case rel => first | exact ⟨j + 1, by omega, by go_num, by rw [← Nat.add_assoc, List.range_succ, List.map_append, ← HL.out]; exact HB.out⟩ | ((repeat apply Exists.intro); exact ⟨⟨j + 1, by omega, by go_num, by rw [← Nat.add_assoc, List.range_succ, List.map_append, ← HL.out]; exact HB.out⟩, rfl⟩)
                case measure => simp [intOf]; omega
            · obtain rfl : j = 8 := by omega
              go_wp2_with fail
              go_ret
              exact ⟨_, rfl, (Bx.mk' HLN.out (HL.out.trans bytes_hi.symm) O1.out G1.out F1.out).up HW2.out⟩
  · rw [if_neg hv]
    rw [Bool.not_eq_true] at hv
    have k29 := fun w => c29 w hv
    clear c29 hv
    go_enter Tryd.func13, Tryd.ntmps13
    unfold adV
    go_wp2_with fail
    have HA1 := Lib.hid (Blk.new w 25 #[Value.bool s, Value.int .u64 (h : Int), Value.int .u64 (l : Int)])
    have HF1 := Lib.hid (Fr.alloc (Fr.refl N0 w) (.cells #[Value.bool s, Value.int .u64 (h : Int), Value.int .u64 (l : Int)] 25))
    generalize w.alloc _ = w1 at *
    obtain ⟨g1, hg1⟩ : ∃ g1, g1 = w.heap.size := ⟨_, rfl⟩
    rw [← hg1] at HA1 ⊢
    have HG1 : Hid (w.heap.size ≤ g1) := Lib.hid (by omega)
    clear hg1
    have HZ1 : Hid (∀ W, Fr N0 w1 W → Blk W g1 25 #[Value.bool s, Value.int .u64 (h : Int), Value.int .u64 (l : Int)]) := Lib.hid fun W hf => HA1.out.fr hf id
    have F := Lib.hid (Fr.refl N0 w1)
    obtain ⟨z1_0, z1_1, z1_2⟩ := (HZ1.out _ F.out).c3
    go_wp2_with (first
      | (go_at_call 18; refine (k29 _).mono ?_; rintro e w2 ⟨rfl, hf⟩; have F := Lib.hid (F.out.trans hf); obtain ⟨z1_0, z1_1, z1_2⟩ := (HZ1.out _ F.out).c3))
    go_ret
    exact ⟨_, rfl, (Bx.nil_ _).up (HF1.out.trans F.out)⟩
end
end Go.Proofs.YtejddfgmfdpnfaaDoor
