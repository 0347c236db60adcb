/- addr.Of of four bytes; Class and Solicited at one address. addr.Class and addr.Solicited of any address. addr.Of of any bytes. The document's Of of bytes. The document's Class and Solicited of any address. Texts of groups, plainly: a row of texts with a byte between is cut at it into that row; what addr.Parse reads of groups with colons between. What an address is told as, as a text and as bytes, is read as that address: plainly. The document's Digits, Groups, zeros. The document's Groups and zeros. The document's Print: the same text as addr.Print's. The document's Print of any address. Whatever text is read as an address: it is a right one, and the text that it is told as is longer by one byte at most. Plainly. -/
import Derived.Test.YtndjijadalkidaaDoorFg
import Derived.Test.YtndjijadalkidaaDoorLe
import Derived.Test.YtndjijadalkidaaDoorBy
import Derived.Test.YtndjijadalkidaaDoorRb
import Derived.Test.YtndjijadalkidaaDoorPt
import Derived.Test.YtndjijadalkidaaDoorP6
import Derived.Deep.RegionLaw
namespace Go.Proofs.YtndjijadalkidaaDoor
open Go.Proofs Go.Shelf Go.RowKit
section
variable {w : World}
end
end Go.Proofs.YtndjijadalkidaaDoor
namespace Go.Proofs.YtndjijadalkidaaDoor
open Go.Proofs Go.Shelf Go.RowKit
def clsA (a : Ad) : Int :=
  if validA a = false then -1 else if a.six = true then (if a.hi = 0 ∧ a.lo = 0 then 0 else if a.hi = 0 ∧ a.lo = 1 then 1 else if a.hi / 18014398509481984 = 1018 then 2 else if a.hi / 72057594037927936 = 255 then 3 else 5)
  else if a.lo = 0 then 0 else if a.lo / 16777216 = 127 then 1 else if a.lo / 65536 = 43518 then 2 else if a.lo = 4294967295 then 4 else if a.lo / 268435456 = 14 then 3 else 5
def solA (a : Ad) : Ad := if a.six = true then ⟨true, 18375249429625044992, 8573157376 + a.lo % 16777216⟩ else ⟨false, 0, 0⟩
theorem sol_or (l : Nat) (h : l < 18446744073709551616) : bits .or .u64 8573157376 (bits .and .u64 (l : Int) 16777215) = ((8573157376 + l % 16777216 : Nat) : Int) := by
  have e : bits .and .u64 (l : Int) 16777215 = ((l % 16777216 : Nat) : Int) := by
    show IntKind.u64.wrap ((BitVec.ofInt 64 (l : Int) &&& BitVec.ofInt 64 16777215).toNat : Int) = _
    have h2 : (BitVec.ofInt 64 (16777215 : Int)).toNat = 2 ^ 24 - 1 := by decide
    rw [BitVec.toNat_and, h2, Nat.and_two_pow_sub_one_eq_mod, BitVec.ofInt_natCast, BitVec.toNat_ofNat, Nat.mod_eq_of_lt h, IntKind.wrap_u64]
    have : l % 2 ^ 24 < 16777216 := Nat.mod_lt _ (by omega)
    have e : l % 2 ^ 24 = l % 16777216 := rfl
    omega
  have hm : l % 16777216 < 16777216 := Nat.mod_lt _ (by omega)
  rw [e, show (8573157376 : Int) = ((8573157376 : Nat) : Int) from rfl, bits_or_u64_nat _ _ (by omega) (by omega)]
  congr 1
  have := Nat.two_pow_add_eq_or_of_lt (i := 24) (show l % 16777216 < 2 ^ 24 from hm) 511
  rw [show (2 : Nat) ^ 24 * 511 = 8573157376 by decide] at this
  exact this.symm
section
variable {w : World}
end
end Go.Proofs.YtndjijadalkidaaDoor
namespace Go.Proofs.YtndjijadalkidaaDoor
open Go.Proofs Go.Shelf Go.RowKit
/-- What bytes are as an address. -/
def ofB (bs : List Nat) : Ad × Int := if bs.length = 4 then (⟨false, 0, acc bs⟩, 0) else if bs.length = 16 then (⟨true, acc (bs.take 8), acc (bs.drop 8)⟩, 0) else (⟨false, 0, 0⟩, 20)
section
variable {w : World}
end
end Go.Proofs.YtndjijadalkidaaDoor
namespace Go.Proofs.YtndjijadalkidaaDoor
open Go.Proofs Go.Shelf Go.RowKit
section
variable {w : World}
end
end Go.Proofs.YtndjijadalkidaaDoor
namespace Go.Proofs.YtndjijadalkidaaDoor
open Go.Proofs Go.Shelf Go.RowKit
theorem own_bytes {w : World} {A : Option Addr} {n c : Nat} {bs : List Nat} (h : Own w 5 1 A n c (bs.map u8v)) (hn : 0 < n) : ∃ g, A = some ⟨g, 0, none⟩ ∧ ∀ (i x : Nat), bs[i]? = some x → w.cell? ⟨g, i, none⟩ = some (.int .u8 (x : Int)) := by
  rcases h.2 with ⟨_, h0, _⟩ | ⟨g, cur, e, hg, _, _, _, ht⟩
  · omega
  · refine ⟨g, e, fun i x hi => ?_⟩
    have hb : Blk w g 5 cur := hg
    have h1 : (cur.toList.take (n * 1))[i]? = some (u8v x) := by rw [ht, List.getElem?_map, hi]; rfl
    rw [List.getElem?_take] at h1
    split at h1
    · rw [Array.getElem?_toList] at h1
      exact (hb.cell i).trans h1
    · cases h1
theorem cls_hi (h l : Nat) (hh : h < 18446744073709551616) : clsA ⟨true, h, l⟩ = if h = 0 ∧ l = 0 then 0 else if h = 0 ∧ l = 1 then 1 else if byteA ⟨true, h, l⟩ 0 = 254 ∧ byteA ⟨true, h, l⟩ 1 / 64 = 2 then 2 else if byteA ⟨true, h, l⟩ 0 = 255 then 3 else 5 := by
  unfold clsA byteA validA
  simp
  repeat' split
  all_goals first | rfl | omega
theorem cls_lo (l : Nat) (hl : l < 4294967296) : clsA ⟨false, 0, l⟩ = if l = 0 then 0 else if byteA ⟨false, 0, l⟩ 0 = 127 then 1 else if byteA ⟨false, 0, l⟩ 0 = 169 ∧ byteA ⟨false, 0, l⟩ 1 = 254 then 2 else if l = 4294967295 then 4 else if byteA ⟨false, 0, l⟩ 0 / 16 = 14 then 3 else 5 := by
  unfold clsA byteA validA
  simp [hl]
  repeat' split
  all_goals first | rfl | omega
section
variable {w : World}
end
end Go.Proofs.YtndjijadalkidaaDoor
namespace Go.Proofs.YtndjijadalkidaaDoor
open Go.Proofs Go.Shelf Go.RowKit
def cutL (c : UInt8) : List UInt8 → List (List UInt8)
  | [] => [[]]
  | x :: l => if x = c then [] :: cutL c l else match cutL c l with
    | t :: r => (x :: t) :: r
    | [] => [[x]]
theorem cutL_ne (c : UInt8) (l : List UInt8) : ∃ t r, cutL c l = t :: r := by
  cases l with
  | nil => exact ⟨[], [], rfl⟩
  | cons x l =>
    unfold cutL
    split
    · exact ⟨_, _, rfl⟩
    · split
      · exact ⟨_, _, rfl⟩
      · exact ⟨_, _, rfl⟩
theorem ix_hit (c : UInt8) (l : List UInt8) : Lib.index (c :: l) [c] = 0 := by simp [Lib.index, List.isPrefixOf]
theorem ix_miss {x c : UInt8} (h : x ≠ c) (l : List UInt8) : Lib.index (x :: l) [c] = if Lib.index l [c] = -1 then -1 else Lib.index l [c] + 1 := by
  have hp : ([c] : List UInt8).isPrefixOf (x :: l) = false := by simp [List.isPrefixOf, Ne.symm h]
  rw [Lib.index, hp]
  simp
theorem splitK_cut (c : UInt8) : ∀ (l : List UInt8) (k : Nat), l.count c ≤ k → Lib.splitK [c] 0 k l = cutL c l
  | [], k, _ => by
    cases k with
    | zero => rfl
    | succ k => rfl
  | x :: l, k, h => by
    by_cases hx : x = c
    · subst hx
      rw [List.count_cons_self] at h
      obtain ⟨k, rfl⟩ : ∃ j, k = j + 1 := ⟨k - 1, by omega⟩
      have ih := splitK_cut x l k (by omega)
      rw [Lib.splitK, ix_hit, cutL, if_pos rfl, if_neg (by decide)]
      simp [ih]
    · rw [List.count_cons_of_ne (by simpa using hx)] at h
      rw [cutL, if_neg hx]
      cases k with
      | zero =>
        have ih := splitK_cut c l 0 h
        rw [← ih]
        rfl
      | succ k =>
        have ih := splitK_cut c l (k + 1) h
        rw [← ih, Lib.splitK, Lib.splitK, ix_miss hx]
        by_cases hm : Lib.index l [c] = -1
        · rw [if_pos (by rw [if_pos hm]; rfl), hm]
          rfl
        · have hge := Lib.index_ge l [c]
          obtain ⟨j, hj⟩ : ∃ j : Nat, Lib.index l [c] = j := ⟨(Lib.index l [c]).toNat, by omega⟩
          have e1 : ¬ ((j : Int) == -1) = true := fun e => by have := beq_iff_eq.1 e; omega
          have e2 : ¬ ((j : Int) + 1 == -1) = true := fun e => by have := beq_iff_eq.1 e; omega
          rw [if_neg hm, hj, if_neg e1, if_neg e2]
          have e3 : ((j : Int) + 1).toNat = j + 1 := by omega
          rw [e3]
          simp
theorem spl_cut (c : UInt8) (s : ByteArray) : (spl c s).map (·.data.toList) = cutL c s.data.toList := by
  unfold spl
  rw [Lib.splitB_data]
  exact splitK_cut c _ _ (Nat.le_of_eq (Lib.count_one c _).symm)
theorem cutL_one {c : UInt8} : ∀ {t : List UInt8}, c ∉ t → cutL c t = [t]
  | [], _ => rfl
  | x :: t, h => by
    have hx : ¬ x = c := fun e => h (by rw [e]; exact List.mem_cons_self)
    rw [cutL, if_neg hx, cutL_one (fun e => h (List.mem_cons_of_mem _ e))]
theorem cutL_app {c : UInt8} (l : List UInt8) : ∀ {t : List UInt8}, c ∉ t → cutL c (t ++ c :: l) = t :: cutL c l
  | [], _ => by rw [List.nil_append, cutL, if_pos rfl]
  | x :: t, h => by
    have hx : ¬ x = c := fun e => h (by rw [e]; exact List.mem_cons_self)
    rw [List.cons_append, cutL, if_neg hx, cutL_app l (fun e => h (List.mem_cons_of_mem _ e))]
theorem join_nil (c : UInt8) : Lib.join [] [c] = [] := rfl
theorem join_one (t : List UInt8) (c : UInt8) : Lib.join [t] [c] = t := by simp [Lib.join, List.intercalate]
theorem join_two (t u : List UInt8) (r : List (List UInt8)) (c : UInt8) : Lib.join (t :: u :: r) [c] = t ++ c :: Lib.join (u :: r) [c] := by simp [Lib.join, List.intercalate]
theorem cutL_join {c : UInt8} : ∀ (ts : List (List UInt8)), ts ≠ [] → (∀ t ∈ ts, c ∉ t) → cutL c (Lib.join ts [c]) = ts
  | [], h, _ => absurd rfl h
  | [t], _, h => by rw [join_one, cutL_one (h t List.mem_cons_self)]
  | t :: u :: r, _, h => by
    rw [join_two, cutL_app _ (h t List.mem_cons_self), cutL_join (u :: r) (by simp) (fun x hx => h x (List.mem_cons_of_mem _ hx))]
theorem mem_join {c d : UInt8} : ∀ (ts : List (List UInt8)), d ∈ Lib.join ts [c] → d = c ∨ ∃ t ∈ ts, d ∈ t
  | [], h => by rw [join_nil] at h; cases h
  | [t], h => by rw [join_one] at h; exact .inr ⟨t, List.mem_cons_self, h⟩
  | t :: u :: r, h => by
    rw [join_two] at h
    rcases List.mem_append.1 h with h | h
    · exact .inr ⟨t, List.mem_cons_self, h⟩
    · rcases List.mem_cons.1 h with h | h
      · exact .inl h
      · rcases mem_join (u :: r) h with h | ⟨x, hx, h⟩
        · exact .inl h
        · exact .inr ⟨x, List.mem_cons_of_mem _ hx, h⟩
/-- Where '::' stands. -/
theorem cc_skip {x : UInt8} (h : x ≠ 58) (l : List UInt8) : Lib.index (x :: l) [58, 58] = if Lib.index l [58, 58] = -1 then -1 else Lib.index l [58, 58] + 1 := by
  have hp : ([58, 58] : List UInt8).isPrefixOf (x :: l) = false := by simp [List.isPrefixOf, Ne.symm h]
  rw [Lib.index, hp]
  simp
theorem cc_one {x : UInt8} (h : x ≠ 58) (l : List UInt8) : Lib.index (58 :: x :: l) [58, 58] = if Lib.index (x :: l) [58, 58] = -1 then -1 else Lib.index (x :: l) [58, 58] + 1 := by
  have hp : ([58, 58] : List UInt8).isPrefixOf (58 :: x :: l) = false := by simp [List.isPrefixOf, Ne.symm h]
  rw [Lib.index, hp]
  simp
theorem cc_here (l : List UInt8) : Lib.index (58 :: 58 :: l) [58, 58] = 0 := by simp [Lib.index, List.isPrefixOf]
def shI (k : Nat) (i : Int) : Int := if i = -1 then -1 else i + k
theorem shI_shI (a b : Nat) (i : Int) (h : -1 ≤ i) : shI a (shI b i) = shI (a + b) i := by
  unfold shI
  split
  · rfl
  · rw [if_neg (by omega)]; omega
theorem cc_text {l : List UInt8} : ∀ {t : List UInt8}, (58 : UInt8) ∉ t → Lib.index (t ++ l) [58, 58] = shI t.length (Lib.index l [58, 58])
  | [], _ => by
    have := Lib.index_ge l [58, 58]
    unfold shI
    split
    · simp_all
    · simp
  | x :: t, h => by
    rw [List.cons_append, cc_skip (fun e => h (e ▸ List.mem_cons_self)), cc_text (fun e => h (List.mem_cons_of_mem _ e))]
    have := shI_shI 1 t.length _ (Lib.index_ge l [58, 58])
    rw [List.length_cons, Nat.add_comm t.length 1, ← this]
    rfl
theorem cc_join (r : List UInt8) (hr : Lib.index r [58, 58] = -1 ∧ r = [] ∨ Lib.index r [58, 58] = 0) : ∀ (ts : List (List UInt8)), (∀ t ∈ ts, t ≠ [] ∧ (58 : UInt8) ∉ t) → Lib.index (Lib.join ts [58] ++ r) [58, 58] = shI (Lib.join ts [58]).length (Lib.index r [58, 58])
  | [], _ => by
    rw [join_nil, List.nil_append]
    rcases hr with ⟨h, _⟩ | h <;> rw [h] <;> rfl
  | [t], h => by rw [join_one, cc_text (h t List.mem_cons_self).2]
  | t :: u :: us, h => by
    have ih := cc_join r hr (u :: us) (fun x hx => h x (List.mem_cons_of_mem _ hx))
    rw [join_two, List.append_assoc, cc_text (h t List.mem_cons_self).2]
    have hu := h u (List.mem_cons_of_mem _ List.mem_cons_self)
    have hx : ∃ x l, Lib.join (u :: us) [58] = x :: l ∧ x ≠ 58 := by
      obtain ⟨h1, h2⟩ := hu
      cases u with
      | nil => exact absurd rfl h1
      | cons x u =>
        have hn : x ≠ 58 := fun e => h2 (e ▸ List.mem_cons_self)
        cases us with
        | nil => exact ⟨x, u, join_one _ _, hn⟩
        | cons v vs => exact ⟨x, u ++ 58 :: Lib.join (v :: vs) [58], by rw [join_two]; rfl, hn⟩
    obtain ⟨x, l, hj, hn⟩ := hx
    rw [hj] at ih ⊢
    rw [List.cons_append, List.cons_append, cc_one hn, ← List.cons_append, ih]
    have hge := Lib.index_ge r [58, 58]
    have e1 : shI 1 (shI (x :: l).length (Lib.index r [58, 58])) = shI (1 + (x :: l).length) (Lib.index r [58, 58]) := shI_shI _ _ _ hge
    have e2 : shI t.length (shI (1 + (x :: l).length) (Lib.index r [58, 58])) = shI (t.length + (1 + (x :: l).length)) (Lib.index r [58, 58]) := shI_shI _ _ _ hge
    rw [show (if shI (x :: l).length (Lib.index r [58, 58]) = -1 then -1 else shI (x :: l).length (Lib.index r [58, 58]) + 1) = shI 1 (shI (x :: l).length (Lib.index r [58, 58])) from rfl, e1, e2]
    congr 1
    simp [List.length_append]
    omega
/-- A group's text: one to four digits. -/
structure Gt (t : List UInt8) (u : Nat) : Prop where
  ne : t ≠ []
  le : t.length ≤ 4
  val : hexG 0 t = some u
theorem hexD_58 : hexD (58 : UInt8).toNat = none := by decide
theorem hexD_46 : hexD (46 : UInt8).toNat = none := by decide
theorem hexG_mem {d : UInt8} (hd : hexD d.toNat = none) : ∀ (t : List UInt8) (a u : Nat), hexG a t = some u → d ∉ t
  | [], _, _, _ => by simp
  | x :: t, a, u, h => by
    intro hm
    unfold hexG at h
    rcases List.mem_cons.1 hm with e | e
    · subst e
      rw [hd] at h
      simp at h
    · cases hx : hexD x.toNat with
      | none => rw [hx] at h; simp at h
      | some v =>
        rw [hx] at h
        exact hexG_mem hd t _ u h e
theorem Gt.colon {t : List UInt8} {u : Nat} (h : Gt t u) : (58 : UInt8) ∉ t := hexG_mem hexD_58 t 0 u h.val
theorem Gt.dot {t : List UInt8} {u : Nat} (h : Gt t u) : (46 : UInt8) ∉ t := hexG_mem hexD_46 t 0 u h.val
theorem Gt.num {t : List UInt8} {u : Nat} (h : Gt t u) : num16 t = some u := by
  unfold num16
  rw [if_neg (by have := h.ne; have := h.le; have : t.length ≠ 0 := fun e => h.ne (List.eq_nil_of_length_eq_zero e); omega)]
  exact h.val
def Gts : List (List UInt8) → List Nat → Prop
  | [], [] => True
  | t :: ts, u :: us => Gt t u ∧ Gts ts us
  | _, _ => False
theorem Gts.hexs : ∀ {ts : List (List UInt8)} {us : List Nat}, Gts ts us → hexs ts = some us
  | [], [], _ => rfl
  | t :: ts, u :: us, h => by
    unfold Go.Proofs.YtndjijadalkidaaDoor.hexs
    rw [h.1.num, Gts.hexs h.2]
  | [], _ :: _, h => h.elim
  | _ :: _, [], h => h.elim
theorem Gts.all : ∀ {ts : List (List UInt8)} {us : List Nat}, Gts ts us → ∀ t ∈ ts, t ≠ [] ∧ (58 : UInt8) ∉ t ∧ (46 : UInt8) ∉ t
  | [], [], _ => by simp
  | t :: ts, u :: us, h => by
    intro x hx
    rcases List.mem_cons.1 hx with rfl | hx
    · exact ⟨h.1.ne, h.1.colon, h.1.dot⟩
    · exact Gts.all h.2 x hx
  | [], _ :: _, h => h.elim
  | _ :: _, [], h => h.elim
theorem Gts.len : ∀ {ts : List (List UInt8)} {us : List Nat}, Gts ts us → ts.length = us.length
  | [], [], _ => rfl
  | t :: ts, u :: us, h => by simp [Gts.len h.2]
  | [], _ :: _, h => h.elim
  | _ :: _, [], h => h.elim
theorem bA_list (l : List UInt8) : (bA l).data.toList = l := by simp [bA]
theorem rowP_join {ts : List (List UInt8)} {us : List Nat} (h : Gts ts us) : rowP (bA (Lib.join ts [58])) = some us := by
  unfold rowP
  cases ts with
  | nil =>
    cases us with
    | nil => rfl
    | cons _ _ => exact h.elim
  | cons t ts =>
    have hall := h.all
    have hne : (bA (Lib.join (t :: ts) [58])).size ≠ 0 := by
      rw [bA_size]
      intro e
      have e := List.eq_nil_of_length_eq_zero e
      have ht := (hall t List.mem_cons_self).1
      cases ts with
      | nil => rw [join_one] at e; exact ht e
      | cons u r => rw [join_two] at e; simp at e
    rw [if_neg hne, spl_cut, bA_list, cutL_join _ (by simp) (fun x hx => (hall x hx).2.1)]
    exact h.hexs
theorem four_none {s : ByteArray} (h : (46 : UInt8) ∉ s.data.toList) : fourP ((spl 46 s).map (·.data.toList)) = none := by
  rw [spl_cut, cutL_one h]
  unfold fourP
  rw [if_neg (by simp)]
theorem dot_join {ts : List (List UInt8)} {us : List Nat} (h : Gts ts us) : (46 : UInt8) ∉ Lib.join ts [58] := by
  intro hm
  rcases mem_join ts hm with e | ⟨t, ht, e⟩
  · exact absurd e (by decide)
  · exact (h.all t ht).2.2 e
/-- Eight groups. -/
theorem parse_full {ts : List (List UInt8)} {us : List Nat} (h : Gts ts us) (h8 : us.length = 8) : parseA (bA (Lib.join ts [58])) = (adG us, 0) := by
  have hix : Lib.index (Lib.join ts [58]) [58, 58] = -1 := by
    have := cc_join [] (.inl ⟨rfl, rfl⟩) ts (fun t ht => ⟨(h.all t ht).1, (h.all t ht).2.1⟩)
    rw [List.append_nil] at this
    rw [this]
    rfl
  have hc : Lib.cut (Lib.join ts [58]) [58, 58] = (Lib.join ts [58], [], false) := by
    unfold Lib.cut
    rw [if_neg (by omega)]
  unfold parseA
  rw [four_none (by rw [bA_list]; exact dot_join h)]
  unfold sixP
  rw [bA_list, hc]
  simp only
  rw [rowP_join h, show rowP (bA []) = some [] from rfl]
  unfold sixR parseR
  simp [h8, grp]
/-- Groups with a :: among them. -/
theorem parse_gap {ts vs : List (List UInt8)} {us xs : List Nat} (h : Gts ts us) (k : Gts vs xs) (h7 : us.length + xs.length ≤ 7) : parseA (bA (Lib.join ts [58] ++ 58 :: 58 :: Lib.join vs [58])) = (adG (grp us xs), 0) := by
  have hix : Lib.index (Lib.join ts [58] ++ 58 :: 58 :: Lib.join vs [58]) [58, 58] = (Lib.join ts [58]).length := by
    have := cc_join (58 :: 58 :: Lib.join vs [58]) (.inr (cc_here _)) ts (fun t ht => ⟨(h.all t ht).1, (h.all t ht).2.1⟩)
    rw [this, cc_here]
    unfold shI
    simp
  have hc : Lib.cut (Lib.join ts [58] ++ 58 :: 58 :: Lib.join vs [58]) [58, 58] = (Lib.join ts [58], Lib.join vs [58], true) := by
    unfold Lib.cut
    rw [if_pos (by omega), hix]
    simp
  unfold parseA
  rw [four_none (by
    rw [bA_list]
    intro hm
    rcases List.mem_append.1 hm with e | e
    · exact dot_join h e
    · rcases List.mem_cons.1 e with e | e
      · exact absurd e (by decide)
      · rcases List.mem_cons.1 e with e | e
        · exact absurd e (by decide)
        · exact dot_join k e)]
  unfold sixP
  rw [bA_list, hc]
  simp only
  rw [rowP_join h, rowP_join k]
  have e : sixR (some us) (some xs) true = some (adG (grp us xs)) := by
    unfold sixR
    exact if_neg (by simp; omega)
  rw [e]
  rfl
end Go.Proofs.YtndjijadalkidaaDoor
namespace Go.Proofs.YtndjijadalkidaaDoor
open Go.Proofs Go.Shelf Go.RowKit
theorem hexD_hd : ∀ d, d < 16 → hexD (hd d).toNat = some d := by decide +kernel
theorem hexG_hd {d a : Nat} {r : List UInt8} (h : d < 16) : hexG a (hd d :: r) = hexG (a * 16 + d) r := by
  rw [hexG, hexD_hd d h]
theorem gt_hx {u : Nat} (h : u < 65536) : Gt (hxT u) u := by
  have hn := hxT_len u
  have hl := nh_le u
  refine ⟨fun e => by rw [e] at hn; simp at hn; omega, by omega, ?_⟩
  have key : ∀ k, nh u = k → 1 ≤ k → k ≤ 4 → u < 16 ^ k → hexG 0 (hxT u) = some u := by
    intro k hk h1 h4 hu
    unfold hxT
    rw [hk]
    match k, h1, h4, hu with
    | 1, _, _, hu =>
      simp only [List.range_succ, List.range_zero, List.nil_append, List.map_cons, List.map_nil]
      rw [hexG_hd (Nat.mod_lt _ (by omega))]
      show some _ = _
      congr 1
      simp at hu ⊢
      omega
    | 2, _, _, hu =>
      simp only [List.range_succ, List.range_zero, List.nil_append, List.cons_append, List.map_cons, List.map_nil]
      rw [hexG_hd (Nat.mod_lt _ (by omega)), hexG_hd (Nat.mod_lt _ (by omega))]
      show some _ = _
      congr 1
      simp at hu ⊢
      omega
    | 3, _, _, hu =>
      simp only [List.range_succ, List.range_zero, List.nil_append, List.cons_append, List.map_cons, List.map_nil]
      rw [hexG_hd (Nat.mod_lt _ (by omega)), hexG_hd (Nat.mod_lt _ (by omega)), hexG_hd (Nat.mod_lt _ (by omega))]
      show some _ = _
      congr 1
      simp at hu ⊢
      omega
    | 4, _, _, hu =>
      simp only [List.range_succ, List.range_zero, List.nil_append, List.cons_append, List.map_cons, List.map_nil]
      rw [hexG_hd (Nat.mod_lt _ (by omega)), hexG_hd (Nat.mod_lt _ (by omega)), hexG_hd (Nat.mod_lt _ (by omega)), hexG_hd (Nat.mod_lt _ (by omega))]
      show some _ = _
      congr 1
      simp at hu ⊢
      omega
  refine key (nh u) rfl hl.1 hl.2 ?_
  unfold nh
  repeat' split
  all_goals simp
  all_goals omega
theorem gts_hx : ∀ (us : List Nat), (∀ u ∈ us, u < 65536) → Gts (us.map hxT) us
  | [], _ => trivial
  | u :: us, h => ⟨gt_hx (h u List.mem_cons_self), gts_hx us fun x hx => h x (List.mem_cons_of_mem _ hx)⟩
theorem zr_zero (us : List Nat) : ∀ (n i t : Nat), t < zr us i n → us[i + t]? = some 0
  | 0, i, t, h => by unfold zr at h; omega
  | n + 1, i, t, h => by
    unfold zr at h
    split at h
    · rename_i h0
      cases t with
      | zero => exact h0
      | succ t =>
        have := zr_zero us n (i + 1) t (by omega)
        rw [show i + (t + 1) = i + 1 + t by omega]
        exact this
    · omega
theorem gapS_zero (us : List Nat) : ∀ (i t : Nat), (gapS us i).1 ≤ t → t < (gapS us i).2 → us[t]? = some 0
  | 0, t, _, h => by unfold gapS at h; omega
  | i + 1, t, h1, h2 => by
    unfold gapS at h1 h2
    split at h1
    · rename_i hc
      rw [if_pos hc] at h2
      simp only at h1 h2
      have := zr_zero us 8 i (t - i) (by omega)
      rwa [show i + (t - i) = t by omega] at this
    · rename_i hc
      rw [if_neg hc] at h2
      exact gapS_zero us i t h1 h2
theorem gapP_zero (us : List Nat) (t : Nat) (h1 : (gapP us).1 ≤ t) (h2 : t < (gapP us).2) : us[t]? = some 0 := by
  unfold gapP at h1 h2
  split at h1
  · rename_i e
    rw [if_pos e] at h2
    rw [e, List.getElem?_replicate, if_pos h2]
  · rename_i e
    rw [if_neg e] at h2
    split at h1
    · rename_i e2
      rw [if_pos e2] at h2
      omega
    · rename_i e2
      rw [if_neg e2] at h2
      exact gapS_zero us 8 t h1 h2
theorem gapP_two (us : List Nat) (h : (gapP us).2 ≠ 0) : (gapP us).1 + 2 ≤ (gapP us).2 := by
  unfold gapP at h ⊢
  split
  · simp
  · rename_i e
    rw [if_neg e] at h
    split
    · rename_i e2
      rw [if_pos e2] at h
      exact absurd rfl h
    · omega
/-- Groups of which a row of groups of 0 is left out. -/
theorem grp_of {us : List Nat} (h8 : us.length = 8) {a b : Nat} (hab : a ≤ b) (hb : b ≤ 8) (hz : ∀ t, a ≤ t → t < b → us[t]? = some 0) : grp (us.take a) (us.drop b) = us := by
  unfold grp
  apply List.ext_getElem?
  intro k
  have e1 : (us.take a).length = a := by simp; omega
  have e2 : (us.drop b).length = 8 - b := by simp; omega
  rw [e1, e2, show 8 - (a + (8 - b)) = b - a by omega]
  by_cases h1 : k < a
  · rw [List.getElem?_append_left (by omega), List.getElem?_take, if_pos h1]
  · rw [List.getElem?_append_right (by omega), e1]
    by_cases h2 : k < b
    · rw [List.getElem?_append_left (by simp; omega), List.getElem?_replicate, if_pos (by omega), hz k (by omega) h2]
    · rw [List.getElem?_append_right (by simp; omega), List.length_replicate, List.getElem?_drop]
      congr 1
      omega
theorem txG_bA (us : List Nat) : txG us = bA (Lib.join (us.map hxT) [58]) := rfl
theorem bA_app (a b : List UInt8) : bA a ++ bA b = bA (a ++ b) := by
  unfold bA
  apply ByteArray.ext
  simp
theorem parse_txt6 {us : List Nat} (h8 : us.length = 8) (hlt : ∀ u ∈ us, u < 65536) : parseA (txt6 us) = (adG us, 0) := by
  unfold txt6
  by_cases h0 : (gapP us).2 = 0
  · rw [if_pos h0, txG_bA]
    exact parse_full (gts_hx us hlt) h8
  · rw [if_neg h0, txG_bA, txG_bA, show (⟨#[58, 58]⟩ : ByteArray) = bA [58, 58] from rfl, bA_app, bA_app, List.append_assoc]
    have h2 := gapP_two us h0
    have h3 := (gapP_le us h8).2
    have e := parse_gap (gts_hx (us.take (gapP us).1) fun u hu => hlt u (List.mem_of_mem_take hu)) (gts_hx (us.drop (gapP us).2) fun u hu => hlt u (List.mem_of_mem_drop hu)) (by simp; omega)
    rw [grp_of h8 (by omega) h3 (fun t a b => gapP_zero us t a b)] at e
    exact e
theorem adG_gs {h l : Nat} (h1 : h < 18446744073709551616) (h2 : l < 18446744073709551616) : adG (gsA ⟨true, h, l⟩) = ⟨true, h, l⟩ := by
  unfold adG gsA
  simp only [List.range_succ, List.range_zero, List.nil_append, List.cons_append, List.map_cons, List.map_nil, List.take_succ_cons, List.take_zero, List.drop_succ_cons, List.drop_zero]
  unfold jn grA
  simp
  omega
theorem parse_six {h l : Nat} (h1 : h < 18446744073709551616) (h2 : l < 18446744073709551616) : parseA (txt6 (gsA ⟨true, h, l⟩)) = (⟨true, h, l⟩, 0) := by
  rw [parse_txt6 (gsA_len _) (gsA_lt _), adG_gs h1 h2]
theorem oct_dd : ∀ x, x < 256 → octP (Lib.decDigits x) = some x ∧ (46 : UInt8) ∉ Lib.decDigits x := by decide +kernel
theorem octs_dd : ∀ (l : List Nat), (∀ x ∈ l, x < 256) → octs (l.map Lib.decDigits) = some l
  | [], _ => rfl
  | x :: l, h => by
    rw [List.map_cons, octs, (oct_dd x (h x List.mem_cons_self)).1, octs_dd l fun y hy => h y (List.mem_cons_of_mem _ hy)]
theorem txt4_bA (l : Nat) : txt4 l = bA (Lib.join ((bytesA ⟨false, 0, l⟩).map Lib.decDigits) [46]) := by
  unfold txt4 tx4 bA
  rw [bytes_lo]
  simp [List.range_succ]
theorem acc_lo {l : Nat} (h : l < 4294967296) : acc (bytesA ⟨false, 0, l⟩) = l := by
  rw [bytes_lo]
  unfold acc byteA
  simp [List.range_succ]
  omega
theorem parse_four {l : Nat} (h : l < 4294967296) : parseA (txt4 l) = (⟨false, 0, l⟩, 0) := by
  have hb : ∀ x ∈ bytesA ⟨false, 0, l⟩, x < 256 := by
    intro x hx
    rw [bytes_lo] at hx
    obtain ⟨k, _, rfl⟩ := List.mem_map.1 hx
    exact byteA_lt _ _
  unfold parseA
  rw [txt4_bA, spl_cut, bA_list, cutL_join _ (by rw [bytes_lo]; simp) (by
    intro t ht
    obtain ⟨x, hx, rfl⟩ := List.mem_map.1 ht
    exact (oct_dd x (hb x hx)).2)]
  unfold fourP
  rw [octs_dd _ hb, if_pos (by rw [bytes_lo]; simp)]
  simp only [Option.map_some, acc_lo h]
  rfl
/-- What a right address is told as is read as it. -/
def txtA (a : Ad) : ByteArray := if a.six = true then txt6 (gsA a) else txt4 a.lo
theorem parse_txtA {a : Ad} (ho : a.ok) (hv : validA a = true) : parseA (txtA a) = (a, 0) := by
  obtain ⟨s, h, l⟩ := a
  unfold txtA
  cases s with
  | true => exact parse_six ho.1 ho.2
  | false =>
    simp [validA] at hv
    obtain ⟨rfl, hv⟩ := hv
    exact parse_four hv
theorem ofB_bytes {a : Ad} (ho : a.ok) (hv : validA a = true) : ofB (bytesA a) = (a, 0) := by
  obtain ⟨s, h, l⟩ := a
  unfold ofB
  cases s with
  | true =>
    rw [bytes_hi, if_neg (by simp), if_pos (by simp)]
    obtain ⟨h1, h2⟩ := ho
    simp only at h1 h2
    unfold acc byteA
    simp [List.range_succ]
    omega
  | false =>
    simp [validA] at hv
    obtain ⟨rfl, hv⟩ := hv
    rw [if_pos (by rw [bytes_lo]; simp), acc_lo hv]
end Go.Proofs.YtndjijadalkidaaDoor
namespace Go.Proofs.YtndjijadalkidaaDoor
open Go.Proofs Go.Shelf Go.RowKit
def dgl (b n : Nat) : List UInt8 := if _h : n < b ∨ b < 2 then [hd n] else dgl b (n / b) ++ [hd (n % b)]
termination_by n
decreasing_by exact Nat.div_lt_self (by omega) (by omega)
theorem dgl_lo {b n : Nat} (h : n < b) : dgl b n = [hd n] := by rw [dgl, dif_pos (.inl h)]
theorem dgl_hi {b n : Nat} (hb : 2 ≤ b) (h : b ≤ n) : dgl b n = dgl b (n / b) ++ [hd (n % b)] := by rw [dgl, dif_neg (by omega)]
def dgZ (b n : Nat) : List UInt8 := if n = 0 then [] else dgl b n
/-- What is there after some rounds: a number that is left, the digits behind. -/
def DgR (b n k : Nat) (t : List UInt8) : Prop := (k = n ∧ t = []) ∨ (t ≠ [] ∧ dgl b n = dgZ b k ++ t)
theorem DgR.step {b n k : Nat} {t : List UInt8} (hb : 2 ≤ b) (h : DgR b n k t) (hk : t = [] ∨ 0 < k) : DgR b n (k / b) (hd (k % b) :: t) := by
  refine .inr ⟨by simp, ?_⟩
  have key : dgl b k = dgZ b (k / b) ++ [hd (k % b)] := by
    by_cases hlt : k < b
    · rw [dgl_lo hlt, Nat.div_eq_of_lt hlt, Nat.mod_eq_of_lt hlt]
      rfl
    · rw [dgl_hi hb (by omega)]
      have : k / b ≠ 0 := by
        intro e
        have := (Nat.div_eq_zero_iff).1 e
        omega
      unfold dgZ
      rw [if_neg this]
  rcases h with ⟨rfl, rfl⟩ | ⟨ht, h⟩
  · exact key
  · have hk0 : k ≠ 0 := by
      rcases hk with e | e
      · exact absurd e ht
      · omega
    rw [h]
    unfold dgZ at key ⊢
    rw [if_neg hk0, key]
    simp
theorem DgR.done {b n : Nat} {t : List UInt8} (h : DgR b n 0 t) (ht : t ≠ []) : t = dgl b n := by
  rcases h with ⟨_, rfl⟩ | ⟨_, h⟩
  · exact absurd rfl ht
  · rw [h]; rfl
def dg16 : ByteArray := ⟨#[48, 49, 50, 51, 52, 53, 54, 55, 56, 57, 97, 98, 99, 100, 101, 102]⟩
theorem ex16 : ∀ m, m < 16 → dg16.extract m (m + 1) = ⟨#[hd m]⟩ := by decide +kernel
theorem dg_cat {m : Nat} (h : m < 16) (t : List UInt8) : (⟨#[48, 49, 50, 51, 52, 53, 54, 55, 56, 57, 97, 98, 99, 100, 101, 102]⟩ : ByteArray).extract m (m + 1) ++ ⟨t.toArray⟩ = ⟨(hd m :: t).toArray⟩ := by
  have := ex16 m h
  unfold dg16 at this
  rw [this]
  apply ByteArray.ext
  simp
theorem dg_wrap {k b : Nat} (h : k < 18446744073709551616) : IntKind.u64.wrap ((k : Int) / (b : Int)) = ((k / b : Nat) : Int) := by
  have := Nat.div_le_self k b
  rw [show (k : Int) / (b : Int) = ((k / b : Nat) : Int) by simp]
  generalize k / b = q at *
  exact IntWalk.u64_in _ (by omega)
theorem dg_step {k b l : Nat} (hb : 2 ≤ b) : k / b * 2 ^ (l + 1) ≤ k * 2 ^ l := by
  have h1 : k / b * 2 ≤ k := by
    have h1 : k / b ≤ k / 2 := Nat.div_le_div_left hb (by omega)
    omega
  calc k / b * 2 ^ (l + 1) = k / b * 2 * 2 ^ l := by rw [Nat.pow_succ, Nat.mul_comm (2 ^ l) 2, Nat.mul_assoc]
    _ ≤ k * 2 ^ l := Nat.mul_le_mul_right _ h1
section
variable {w : World}
end
end Go.Proofs.YtndjijadalkidaaDoor
namespace Go.Proofs.YtndjijadalkidaaDoor
open Go.Proofs Go.Shelf Go.RowKit
def u64v (x : Nat) : Value := .int .u64 (x : Int)
/-- A slice of numbers of the call's own, made since w. -/
def Ux (w wr : World) (v : Value) (l : List Nat) : Prop :=
  ∃ A c, v = .slice A l.length c ∧ Own wr 22 1 A l.length c (l.map u64v) ∧ (∀ g, A = some ⟨g, 0, none⟩ → w.heap.size ≤ g) ∧ Fr N0 w wr
theorem Ux.nil_ (w : World) : Ux w w (.slice none 0 0) [] := ⟨none, 0, rfl, Own.nil_ _ _ _, nofun, Fr.refl _ _⟩
theorem info64 : (Tryd.prog.info? 22).map (fun i => (i.zero, i.size, i.bytes)) = some (some (.int .u64 0), 1, 8) := by kernel_rfl
theorem Ux.step {w wr w' : World} {A : Option Addr} {g' c' n x : Nat} {l : List Nat} {X : Int} (G1 : ∀ g, A = some ⟨g, 0, none⟩ → w.heap.size ≤ g) (F1 : Fr N0 w wr) (hn : l.length = n)
    (hO' : Own w' 22 1 (some ⟨g', 0, none⟩) (n + 1) c' (l.map u64v ++ [.int .u64 X])) (hF' : Fr (fun i => A = some ⟨i, 0, none⟩) wr w') (hA' : A = some ⟨g', 0, none⟩ ∨ wr.heap.size ≤ g') (hX : X = (x : Int)) :
    Ux w w' (.slice (some ⟨g', 0, none⟩) (n + 1) c') (l ++ [x]) := by
  subst hX
  refine ⟨some ⟨g', 0, none⟩, c', by rw [List.length_append, hn]; rfl, by rw [List.length_append, hn, List.map_append]; exact hO', ?_, F1.step hF' fun i hi => .inr (G1 i hi)⟩
  intro g e
  rcases hA' with h | h
  · exact G1 g (h.trans e)
  · injection e with e
    injection e with e
    rw [← e]
    exact Nat.le_trans F1.size h
theorem Ux.up {w w2 wr : World} {v : Value} {l : List Nat} (k : Ux w2 wr v l) (hF : Fr N0 w w2) : Ux w wr v l := by
  obtain ⟨A, c, h1, h2, h3, h4⟩ := k
  exact ⟨A, c, h1, h2, fun g e => Nat.le_trans hF.size (h3 g e), hF.trans h4⟩
theorem Ux.mk' {w wr : World} {A : Option Addr} {c n : Nat} {L l : List Nat} (hn : L.length = n) (hl : L = l) (hO : Own wr 22 1 A n c (L.map u64v)) (hg : ∀ g, A = some ⟨g, 0, none⟩ → w.heap.size ≤ g) (hF : Fr N0 w wr) : Ux w wr (.slice A n c) l := by
  subst hl hn
  exact ⟨A, c, rfl, hO, hg, hF⟩
theorem own_u64 {w : World} {A : Option Addr} {n c : Nat} {bs : List Nat} (h : Own w 22 1 A n c (bs.map u64v)) (hn : 0 < n) : ∃ g, A = some ⟨g, 0, none⟩ ∧ ∀ (i x : Nat), bs[i]? = some x → w.cell? ⟨g, i, none⟩ = some (.int .u64 (x : Int)) := by
  rcases h.2 with ⟨_, h0, _⟩ | ⟨g, cur, e, hg, _, _, _, ht⟩
  · omega
  · refine ⟨g, e, fun i x hi => ?_⟩
    have hb : Blk w g 22 cur := hg
    have h1 : (cur.toList.take (n * 1))[i]? = some (u64v x) := by rw [ht, List.getElem?_map, hi]; rfl
    rw [List.getElem?_take] at h1
    split at h1
    · rw [Array.getElem?_toList] at h1
      exact (hb.cell i).trans h1
    · cases h1
theorem gr_by (h l j : Nat) (hj : j < 8) : byteA ⟨true, h, l⟩ (2 * j) * 256 + byteA ⟨true, h, l⟩ (2 * j + 1) = grA ⟨true, h, l⟩ j := by
  unfold byteA grA
  have : j = 0 ∨ j = 1 ∨ j = 2 ∨ j = 3 ∨ j = 4 ∨ j = 5 ∨ j = 6 ∨ j = 7 := by omega
  rcases this with rfl | rfl | rfl | rfl | rfl | rfl | rfl | rfl <;> simp <;> omega
section
variable {w : World}
end
end Go.Proofs.YtndjijadalkidaaDoor
namespace Go.Proofs.YtndjijadalkidaaDoor
open Go.Proofs Go.Shelf Go.RowKit
section
variable {w : World}
end
def atS (us : List Nat) : Nat → Nat
  | 0 => 0
  | i + 1 => if zr us (atS us i) 8 < zr us (i + 1) 8 then i + 1 else atS us i
theorem atS_le (us : List Nat) : ∀ i, atS us i ≤ i
  | 0 => Nat.le_refl _
  | i + 1 => by
    have := atS_le us i
    unfold atS
    split <;> omega
theorem gapS_at (us : List Nat) : ∀ i, gapS us (i + 1) = (atS us i, atS us i + zr us (atS us i) 8)
  | 0 => by
    unfold gapS atS gapS
    split
    · simp
    · simp at *; omega
  | i + 1 => by
    rw [gapS, gapS_at us i, atS]
    simp only
    by_cases h : zr us (atS us i) 8 < zr us (i + 1) 8
    · rw [if_pos (by omega), if_pos h]
    · rw [if_neg (by omega), if_neg h]
def atM (us : List Nat) : Nat := atS us 7
def manyM (us : List Nat) : Nat := zr us (atM us) 8
theorem txt6_at (us : List Nat) : txt6 us = if 1 < manyM us then txG (us.take (atM us)) ++ ⟨#[58, 58]⟩ ++ txG (us.drop (atM us + manyM us)) else txG us := by
  have hg := gapS_at us 7
  unfold txt6 gapP
  by_cases e : us = List.replicate 8 0
  · subst e
    decide +kernel
  · rw [if_neg e, hg]
    simp only
    rw [Nat.add_sub_cancel_left]
    by_cases h : 1 < manyM us
    · unfold manyM atM at h ⊢
      rw [if_neg (show ¬ zr us (atS us 7) 8 < 2 by omega), if_pos h]
      simp only
      rw [if_neg (by omega)]
    · unfold manyM atM at h ⊢
      rw [if_pos (show zr us (atS us 7) 8 < 2 by omega), if_neg h]
      rfl
theorem manyM_le {us : List Nat} (h8 : us.length = 8) : atM us + manyM us ≤ 8 := zr_le us h8 8 _ (by have := atS_le us 7; unfold atM; omega)
theorem join_snoc (c : UInt8) (x : List UInt8) : ∀ (l : List (List UInt8)), l ≠ [] → Lib.join (l ++ [x]) [c] = Lib.join l [c] ++ c :: x
  | [], h => absurd rfl h
  | [t], _ => by rw [List.singleton_append, join_two, join_one, join_one]
  | t :: u :: r, _ => by
    have ih := join_snoc c x (u :: r) (by simp)
    rw [join_two, List.cons_append, List.cons_append, join_two, ← List.cons_append, ih]
    simp
/-- What is told behind some groups. -/
def pT (us : List Nat) (i : Nat) : List UInt8 :=
  if 1 < manyM us ∧ atM us < i then Lib.join ((us.take (atM us)).map hxT) [58] ++ 58 :: 58 :: Lib.join (((us.drop (atM us + manyM us)).take (i - (atM us + manyM us))).map hxT) [58]
  else Lib.join ((us.take i).map hxT) [58]
theorem pT_zero (us : List Nat) : pT us 0 = [] := by
  unfold pT
  rw [if_neg (by omega)]
  rfl
theorem pT_gap {us : List Nat} (h : 1 < manyM us) : pT us (atM us + manyM us) = pT us (atM us) ++ [58, 58] := by
  unfold pT
  rw [if_pos ⟨h, by omega⟩, if_neg (by omega), Nat.sub_self]
  rfl
theorem pT_all {us : List Nat} (h8 : us.length = 8) : bA (pT us 8) = txt6 us := by
  have hm := manyM_le h8
  rw [txt6_at]
  unfold pT
  by_cases h : 1 < manyM us
  · have eT : (us.drop (atM us + manyM us)).take (8 - (atM us + manyM us)) = us.drop (atM us + manyM us) := List.take_of_length_le (by rw [List.length_drop]; omega)
    rw [if_pos ⟨h, by omega⟩, if_pos h, txG_bA, txG_bA, show (⟨#[58, 58]⟩ : ByteArray) = bA [58, 58] from rfl, bA_app, bA_app, List.append_assoc, eT]
    rfl
  · rw [if_neg (fun k => h k.1), if_neg h, List.take_of_length_le (by omega), txG_bA]
/-- The last byte of a text. -/
def lastC (l : List UInt8) : Option UInt8 := l.getLast?
theorem hx_last {u : Nat} (h : u < 65536) (l : List UInt8) : ∃ c, (l ++ hxT u).getLast? = some c ∧ c ≠ 58 := by
  have g := gt_hx h
  obtain ⟨c, hc⟩ : ∃ c, (hxT u).getLast? = some c := by
    cases e : (hxT u).getLast? with
    | none => exact absurd (List.getLast?_eq_none_iff.1 e) g.ne
    | some c => exact ⟨c, rfl⟩
  refine ⟨c, by rw [List.getLast?_append, hc]; rfl, ?_⟩
  rintro rfl
  exact g.colon (List.mem_of_getLast? hc)
theorem hx_last_join {us : List Nat} (hlt : ∀ u ∈ us, u < 65536) (hne : us ≠ []) (l : List UInt8) : ∃ c, (l ++ Lib.join (us.map hxT) [58]).getLast? = some c ∧ c ≠ 58 := by
  rcases List.eq_nil_or_concat us with rfl | ⟨r, u, rfl⟩
  · exact absurd rfl hne
  · rw [List.concat_eq_append] at hlt ⊢
    rw [List.map_append, List.map_singleton]
    have hu := hlt u (by simp)
    cases r with
    | nil =>
      rw [List.map_nil, List.nil_append, join_one]
      exact hx_last hu l
    | cons x r =>
      rw [join_snoc _ _ _ (by simp), ← List.append_assoc]
      have := hx_last hu (l ++ Lib.join ((x :: r).map hxT) [58] ++ [58])
      simpa using this
theorem take_map_snoc {us : List Nat} {i u : Nat} (hu : us[i]? = some u) : (us.take (i + 1)).map hxT = (us.take i).map hxT ++ [hxT u] := by
  obtain ⟨hi, rfl⟩ := List.getElem?_eq_some_iff.1 hu
  rw [List.take_succ_eq_append_getElem hi, List.map_append]
  rfl
/-- One group more: with a colon ahead, or not. -/
theorem pT_next {us : List Nat} (h8 : us.length = 8) (hlt : ∀ u ∈ us, u < 65536) {i u : Nat} (hu : us[i]? = some u) (hi : ¬ (1 < manyM us ∧ i = atM us)) (hok : ¬ (1 < manyM us ∧ atM us < i) ∨ atM us + manyM us ≤ i) :
    (i = 0 ∧ pT us (i + 1) = pT us i ++ hxT u) ∨ (0 < i ∧ (∃ c, (pT us i).getLast? = some c ∧ c ≠ 58) ∧ pT us (i + 1) = pT us i ++ 58 :: hxT u) ∨ (0 < i ∧ (pT us i).getLast? = some 58 ∧ pT us (i + 1) = pT us i ++ hxT u) := by
  have hi8 := (List.getElem?_eq_some_iff.1 hu).1
  by_cases h : 1 < manyM us ∧ atM us < i
  · have hge := hok.resolve_left (fun k => k h)
    right
    have e1 : pT us i = Lib.join ((us.take (atM us)).map hxT) [58] ++ 58 :: 58 :: Lib.join (((us.drop (atM us + manyM us)).take (i - (atM us + manyM us))).map hxT) [58] := by unfold pT; rw [if_pos h]
    have e2 : pT us (i + 1) = Lib.join ((us.take (atM us)).map hxT) [58] ++ 58 :: 58 :: Lib.join (((us.drop (atM us + manyM us)).take (i - (atM us + manyM us) + 1)).map hxT) [58] := by
      unfold pT
      rw [if_pos ⟨h.1, by omega⟩, show i + 1 - (atM us + manyM us) = i - (atM us + manyM us) + 1 by omega]
    have hu' : (us.drop (atM us + manyM us))[i - (atM us + manyM us)]? = some u := by
      rw [List.getElem?_drop, show atM us + manyM us + (i - (atM us + manyM us)) = i by omega]
      exact hu
    rw [take_map_snoc hu'] at e2
    generalize i - (atM us + manyM us) = d at *
    generalize hT : (us.drop (atM us + manyM us)).take d = T at *
    have hT16 : ∀ u ∈ T, u < 65536 := fun u h => hlt u (List.mem_of_mem_drop (List.mem_of_mem_take (by rw [hT]; exact h)))
    rw [e1, e2]
    cases T with
    | nil =>
      right
      refine ⟨by omega, ?_, ?_⟩
      · rw [List.map_nil, join_nil]
        simp
      · rw [List.map_nil, List.nil_append, join_one, join_nil]
        simp
    | cons x T =>
      left
      refine ⟨by omega, ?_, ?_⟩
      · have := hx_last_join hT16 (by simp) (Lib.join ((us.take (atM us)).map hxT) [58] ++ [58, 58])
        simpa using this
      · rw [join_snoc _ _ _ (by simp)]
        simp
  · have e1 : pT us i = Lib.join ((us.take i).map hxT) [58] := by unfold pT; rw [if_neg h]
    have e2 : pT us (i + 1) = Lib.join ((us.take (i + 1)).map hxT) [58] := by
      unfold pT
      rw [if_neg (by omega)]
    rw [take_map_snoc hu] at e2
    rw [e1, e2]
    by_cases h0 : i = 0
    · left
      subst h0
      refine ⟨rfl, ?_⟩
      rw [List.take_zero, List.map_nil, List.nil_append, join_one, join_nil]
      rfl
    · right; left
      have hne : us.take i ≠ [] := by
        intro e
        have := congrArg List.length e
        rw [List.length_take] at this
        simp only [List.length_nil] at this
        omega
      refine ⟨by omega, ?_, ?_⟩
      · have := hx_last_join (us := us.take i) (fun u h => hlt u (List.mem_of_mem_take h)) hne []
        simpa using this
      · rw [join_snoc _ _ _ (by simpa using hne)]
theorem pT_len {us : List Nat} (h8 : us.length = 8) (i : Nat) : (pT us i).length ≤ 100 := by
  have hj : ∀ (l : List Nat), (Lib.join (l.map hxT) [58]).length ≤ 5 * l.length := fun l => by
    have := txG_size l
    rw [txG_bA, bA_size] at this
    exact this
  unfold pT
  split
  · have h1 := hj (us.take (atM us))
    have h2 := hj ((us.drop (atM us + manyM us)).take (i - (atM us + manyM us)))
    rw [List.length_take] at h1
    rw [List.length_take, List.length_drop] at h2
    rw [List.length_append, List.length_cons, List.length_cons]
    omega
  · have h1 := hj (us.take i)
    rw [List.length_take] at h1
    omega
theorem dgl_hx {u : Nat} (h : u < 65536) : dgl 16 u = hxT u := by
  have m1 : ∀ n, n % 16 < 16 := fun n => Nat.mod_lt _ (by omega)
  unfold hxT nh
  by_cases h1 : u < 16
  · rw [if_pos h1, dgl_lo h1]
    simp [List.range_succ, Nat.mod_eq_of_lt h1]
  · rw [if_neg h1, dgl_hi (by omega) (by omega)]
    by_cases h2 : u < 256
    · rw [if_pos h2, dgl_lo (by omega)]
      simp [List.range_succ]
      rw [Nat.mod_eq_of_lt (by omega)]
    · rw [if_neg h2, dgl_hi (by omega) (by omega)]
      by_cases h3 : u < 4096
      · rw [if_pos h3, dgl_lo (by omega)]
        simp [List.range_succ, Nat.div_div_eq_div_mul]
        rw [Nat.mod_eq_of_lt (by omega)]
      · rw [if_neg h3, dgl_hi (by omega) (by omega), dgl_lo (by omega)]
        simp [List.range_succ, Nat.div_div_eq_div_mul]
        rw [Nat.mod_eq_of_lt (by omega)]
theorem dgl_dd : ∀ x, x < 256 → dgl 10 x = Lib.decDigits x := by decide +kernel
end Go.Proofs.YtndjijadalkidaaDoor
namespace Go.Proofs.YtndjijadalkidaaDoor
open Go.Proofs Go.Shelf Go.RowKit
def prtA (a : Ad) : ByteArray := if validA a = true then txtA a else ⟨#[]⟩
section
variable {w : World}
set_option maxHeartbeats 1600000 in
set_option maxRecDepth 100000 in
theorem prt_bad (a : Ad) (hv : validA a = false) : Calls Tryd.prog 38 #[adV a] w fun e w' => e = .returned (.string ⟨#[]⟩) ∧ Fr N0 w w' := by
  obtain ⟨s, h, l⟩ := a
  have c29 : ∀ (w : World) {b : Bool}, validA ⟨s, h, l⟩ = b → Calls Tryd.prog 29 #[.agg #[.bool s, .int .u64 (h : Int), .int .u64 (l : Int)]] w fun e w' => e = .returned (.bool b) ∧ Fr N0 w w' := fun w b hb => hb ▸ aval (w := w) ⟨s, h, l⟩
  have k29 := fun w => c29 w hv
  clear c29 hv
  go_enter Tryd.func38, Tryd.ntmps38
  unfold adV
  go_wp2_with fail
  have HA1 := Lib.hid (Blk.new w 24 #[Value.bool s, Value.int .u64 (h : Int), Value.int .u64 (l : Int)])
  have HF1 := Lib.hid (Fr.alloc (Fr.refl N0 w) (.cells #[Value.bool s, Value.int .u64 (h : Int), Value.int .u64 (l : Int)] 24))
  generalize w.alloc _ = w1 at *
  obtain ⟨g1, hg1⟩ : ∃ g1, g1 = w.heap.size := ⟨_, rfl⟩
  rw [← hg1] at HA1 ⊢
  have HG1 : Hid (w.heap.size ≤ g1) := Lib.hid (by omega)
  clear hg1
  have HZ1 : Hid (∀ W, Fr N0 w1 W → Blk W g1 24 #[Value.bool s, Value.int .u64 (h : Int), Value.int .u64 (l : Int)]) := Lib.hid fun W hf => HA1.out.fr hf id
  have F := Lib.hid (Fr.refl N0 w1)
  obtain ⟨z1_0, z1_1, z1_2⟩ := (HZ1.out _ F.out).c3
  go_wp2_with (first
    | (go_at_call 29; refine (k29 _).mono ?_; rintro e w2 ⟨rfl, hf⟩; have F := Lib.hid (F.out.trans hf); obtain ⟨z1_0, z1_1, z1_2⟩ := (HZ1.out _ F.out).c3))
  go_ret
  exact ⟨rfl, HF1.out.trans F.out⟩
/-- addr.Print of any address. -/
theorem prt_ (a : Ad) (ht : T10 w) (hd : D4 w) : Calls Tryd.prog 38 #[adV a] w fun e w' => e = .returned (.string (prtA a)) ∧ Fr N0 w w' := by
  unfold prtA
  cases hv : validA a with
  | false => exact prt_bad a hv
  | true =>
    rw [if_pos rfl]
    obtain ⟨s, h, l⟩ := a
    unfold txtA
    cases s with
    | true => exact prt6 h l hd
    | false =>
      simp [validA] at hv
      obtain ⟨rfl, hv⟩ := hv
      exact prt4 l hv ht
def p4 (bs : List Nat) (j : Nat) : List UInt8 := Lib.join ((bs.take j).map Lib.decDigits) [46]
theorem p4_next {bs : List Nat} {j x : Nat} (hx : bs[j]? = some x) : (j = 0 ∧ p4 bs (j + 1) = p4 bs j ++ Lib.decDigits x) ∨ (0 < j ∧ p4 bs (j + 1) = p4 bs j ++ 46 :: Lib.decDigits x) := by
  obtain ⟨hi, rfl⟩ := List.getElem?_eq_some_iff.1 hx
  unfold p4
  rw [List.take_succ_eq_append_getElem hi, List.map_append, List.map_singleton]
  by_cases h0 : j = 0
  · left
    subst h0
    refine ⟨rfl, ?_⟩
    rw [List.take_zero, List.map_nil, List.nil_append, join_one, join_nil]
    rfl
  · right
    refine ⟨by omega, ?_⟩
    rw [join_snoc]
    intro e
    have := congrArg List.length e
    rw [List.length_map, List.length_take] at this
    simp only [List.length_nil] at this
    omega
theorem p4_len {bs : List Nat} (hlt : ∀ x ∈ bs, x < 256) : ∀ (j : Nat), (p4 bs j).length ≤ 4 * j
  | 0 => by unfold p4; simp [join_nil]
  | j + 1 => by
    have ih := p4_len hlt j
    cases hx : bs[j]? with
    | none =>
      have e : bs.take (j + 1) = bs.take j := by
        rw [List.take_of_length_le, List.take_of_length_le]
        · exact List.getElem?_eq_none_iff.1 hx
        · have := List.getElem?_eq_none_iff.1 hx; omega
      unfold p4 at ih ⊢
      rw [e]
      omega
    | some x =>
      have h3 := dd_le3 (hlt x (List.mem_of_getElem? hx))
      rcases p4_next hx with ⟨_, e⟩ | ⟨_, e⟩ <;> rw [e, List.length_append]
      · omega
      · rw [List.length_cons]; omega
theorem bA_cat (a b : List UInt8) : (⟨a.toArray⟩ : ByteArray) ++ ⟨b.toArray⟩ = ⟨(a ++ b).toArray⟩ := by
  apply ByteArray.ext
  simp
end
end Go.Proofs.YtndjijadalkidaaDoor
namespace Go.Proofs.YtndjijadalkidaaDoor
open Go.Proofs Go.Shelf Go.RowKit
/-- The bytes of a row of texts, one more for each. -/
def tl : List (List UInt8) → Nat
  | [] => 0
  | t :: ts => t.length + 1 + tl ts
def nl : List Nat → Nat
  | [] => 0
  | u :: us => nh u + 1 + nl us
theorem nl_app : ∀ (a b : List Nat), nl (a ++ b) = nl a + nl b
  | [], b => by simp [nl]
  | u :: a, b => by
    have := nl_app a b
    simp only [List.cons_append, nl]
    omega
theorem nl_zero : ∀ n, nl (List.replicate n 0) = 2 * n
  | 0 => rfl
  | n + 1 => by
    have := nl_zero n
    rw [List.replicate_succ, nl, this]
    have : nh 0 = 1 := by decide
    omega
theorem tl_cut (c : UInt8) : ∀ (l : List UInt8), tl (cutL c l) = l.length + 1
  | [] => rfl
  | x :: l => by
    have ih := tl_cut c l
    obtain ⟨t, r, e⟩ := cutL_ne c l
    unfold cutL
    rw [e] at ih ⊢
    split
    · rw [tl, ih]; simp; omega
    · simp only [tl, List.length_cons] at ih ⊢
      omega
theorem nh_num {t : List UInt8} {u : Nat} (h : num16 t = some u) : nh u ≤ t.length := by
  unfold num16 at h
  split at h
  · cases h
  · have h1 := hexG_lt t 0 u h
    have hl : t.length = 1 ∨ t.length = 2 ∨ t.length = 3 ∨ t.length = 4 := by omega
    have h4 := (nh_le u).2
    unfold nh at h4 ⊢
    rcases hl with e | e | e | e <;> rw [e] at h1 ⊢ <;> simp at h1 <;> (repeat' split) <;> omega
theorem nl_hexs : ∀ (ts : List (List UInt8)) (us : List Nat), hexs ts = some us → nl us ≤ tl ts
  | [], us, h => by cases h; simp [nl]
  | t :: ts, us, h => by
    unfold hexs at h
    cases h1 : num16 t with
    | none => rw [h1] at h; cases h
    | some u =>
      cases h2 : hexs ts with
      | none => rw [h1, h2] at h; cases h
      | some vs =>
        rw [h1, h2] at h
        cases h
        have a := nh_num h1
        have b := nl_hexs ts vs h2
        simp only [nl, tl]
        omega
/-- What a text of groups is read as has no more digits than it. -/
theorem rowP_nl {s : ByteArray} {us : List Nat} (h : rowP s = some us) : nl us ≤ s.size + (if us = [] then 0 else 1) ∧ (us = [] → s.size = 0) := by
  unfold rowP at h
  split at h
  · rename_i h0
    cases h
    exact ⟨Nat.zero_le _, fun _ => h0⟩
  · rw [spl_cut] at h
    have h1 := nl_hexs _ _ h
    rw [tl_cut, show s.data.toList.length = s.size from Lib.size_eq s] at h1
    have h2 := hexs_len _ _ h
    obtain ⟨t, r, e⟩ := cutL_ne 58 s.data.toList
    have hne : us ≠ [] := by
      intro e2
      rw [e2, e] at h2
      simp at h2
    rw [if_neg hne]
    exact ⟨h1, fun e => absurd e hne⟩
theorem tl_join (c : UInt8) : ∀ (ts : List (List UInt8)), ts ≠ [] → (Lib.join ts [c]).length + 1 = tl ts
  | [], h => absurd rfl h
  | [t], _ => by rw [join_one]; simp [tl]
  | t :: u :: r, _ => by
    have := tl_join c (u :: r) (by simp)
    rw [join_two]
    simp only [tl, List.length_append, List.length_cons] at this ⊢
    omega
theorem tl_hx : ∀ (us : List Nat), tl (us.map hxT) = nl us
  | [] => rfl
  | u :: us => by
    rw [List.map_cons, tl, nl, tl_hx us, hxT_len]
theorem txG_nl (us : List Nat) : (txG us).size + (if us = [] then 0 else 1) = nl us := by
  rw [txG_bA, bA_size]
  by_cases h : us = []
  · subst h
    rfl
  · rw [if_neg h, tl_join _ _ (by simpa using h), tl_hx]
theorem atS_max (us : List Nat) : ∀ i j, j ≤ i → zr us j 8 ≤ zr us (atS us i) 8
  | 0, j, h => by
    obtain rfl : j = 0 := by omega
    exact Nat.le_refl _
  | i + 1, j, h => by
    have ih := fun h => atS_max us i j h
    have ih2 := atS_max us i i (Nat.le_refl _)
    unfold atS
    split
    · by_cases e : j = i + 1
      · subst e; exact Nat.le_refl _
      · have := ih (by omega); omega
    · by_cases e : j = i + 1
      · subst e; omega
      · exact ih (by omega)
theorem zr_ge (us : List Nat) : ∀ (d i n : Nat), d ≤ n → (∀ t, t < d → us[i + t]? = some 0) → d ≤ zr us i n
  | 0, _, _, _, _ => Nat.zero_le _
  | d + 1, i, 0, h, _ => by omega
  | d + 1, i, n + 1, h, hz => by
    have h0 : us[i]? = some 0 := hz 0 (by omega)
    have := zr_ge us d (i + 1) n (by omega) (fun t ht => by rw [show i + 1 + t = i + (t + 1) by omega]; exact hz (t + 1) (by omega))
    unfold zr
    rw [if_pos h0]
    omega
theorem nl_split {us : List Nat} {a b : Nat} (hab : a ≤ b) (hb : b ≤ us.length) (hz : ∀ t, a ≤ t → t < b → us[t]? = some 0) : nl us = nl (us.take a) + 2 * (b - a) + nl (us.drop b) := by
  have e : us = us.take a ++ (List.replicate (b - a) 0 ++ us.drop b) := by
    apply List.ext_getElem?
    intro k
    have e1 : (us.take a).length = a := by rw [List.length_take]; omega
    by_cases h1 : k < a
    · rw [List.getElem?_append_left (by omega), List.getElem?_take, if_pos h1]
    · rw [List.getElem?_append_right (by omega), e1]
      by_cases h2 : k < b
      · rw [List.getElem?_append_left (by rw [List.length_replicate]; omega), List.getElem?_replicate, if_pos (by omega), hz k (by omega) h2]
      · rw [List.getElem?_append_right (by rw [List.length_replicate]; omega), List.length_replicate, List.getElem?_drop]
        congr 1
        omega
  have := congrArg nl e
  rw [nl_app, nl_app, nl_zero] at this
  omega
theorem nil_len {us : List Nat} : (if us = [] then 0 else 1) = (if us.length = 0 then 0 else 1) := by
  cases us <;> simp
theorem manyM_zero (us : List Nat) (t : Nat) (h1 : atM us ≤ t) (h2 : t < atM us + manyM us) : us[t]? = some 0 := by
  have := zr_zero us 8 (atM us) (t - atM us) (by unfold manyM at h2; omega)
  rwa [show atM us + (t - atM us) = t by omega] at this
/-- The size of the text of groups. -/
theorem txt6_nl {us : List Nat} (h8 : us.length = 8) : (txt6 us).size = if 1 < manyM us then nl us + 2 - 2 * manyM us - (if atM us = 0 then 0 else 1) - (if atM us + manyM us = 8 then 0 else 1) else nl us - 1 := by
  have hm := manyM_le h8
  rw [txt6_at]
  by_cases h : 1 < manyM us
  · rw [if_pos h, if_pos h]
    have a := txG_nl (us.take (atM us))
    have b := txG_nl (us.drop (atM us + manyM us))
    have c := nl_split (us := us) (show atM us ≤ atM us + manyM us by omega) (by omega) (manyM_zero us)
    rw [nil_len, List.length_take] at a
    rw [nil_len, List.length_drop] at b
    rw [ByteArray.size_append, ByteArray.size_append, show (⟨#[58, 58]⟩ : ByteArray).size = 2 from rfl]
    have a1 : (if min (atM us) us.length = 0 then 0 else 1) = (if atM us = 0 then 0 else 1) := by
      have : min (atM us) us.length = atM us := by omega
      rw [this]
    have b1 : (if us.length - (atM us + manyM us) = 0 then 0 else 1) = (if atM us + manyM us = 8 then 0 else 1) := by
      by_cases e : atM us + manyM us = 8
      · rw [if_pos (by omega), if_pos e]
      · rw [if_neg (by omega), if_neg e]
    rw [a1] at a
    rw [b1] at b
    generalize nl us = N at *
    generalize nl (us.take (atM us)) = A at *
    generalize nl (us.drop (atM us + manyM us)) = B at *
    generalize (txG (us.take (atM us))).size = x at *
    generalize (txG (us.drop (atM us + manyM us))).size = y at *
    split at a <;> split at b <;> simp_all <;> omega
  · rw [if_neg h, if_neg h]
    have a := txG_nl us
    rw [nil_len, h8] at a
    simp at a
    omega
theorem grp_len {X Y : List Nat} (h : X.length + Y.length ≤ 8) : (grp X Y).length = 8 := by
  unfold grp
  simp
  omega
theorem nl_len (X : List Nat) : ((if X = [] then 0 else 1) = 0 ∧ X.length = 0 ∧ nl X = 0) ∨ ((if X = [] then 0 else 1) = 1 ∧ 1 ≤ X.length) := by
  cases X with
  | nil => exact .inl ⟨rfl, rfl, rfl⟩
  | cons u r => exact .inr ⟨rfl, by simp⟩
/-- Of groups with a :: among them. -/
theorem txt6_gap {X Y : List Nat} (h7 : X.length + Y.length ≤ 7) {P Q : Nat} (hP : nl X ≤ P + (if X = [] then 0 else 1)) (hQ : nl Y ≤ Q + (if Y = [] then 0 else 1)) : (txt6 (grp X Y)).size ≤ P + Q + 3 := by
  have hN : nl (grp X Y) = nl X + 2 * (8 - (X.length + Y.length)) + nl Y := by
    unfold grp
    rw [nl_app, nl_app, nl_zero]
    omega
  have h8 := grp_len (show X.length + Y.length ≤ 8 by omega)
  have hz : 8 - (X.length + Y.length) ≤ manyM (grp X Y) := by
    have h1 := zr_ge (grp X Y) (8 - (X.length + Y.length)) X.length 8 (by omega) (by
      intro t ht
      unfold grp
      rw [List.getElem?_append_right (by omega), List.getElem?_append_left (by rw [List.length_replicate]; omega), List.getElem?_replicate, if_pos (by omega)])
    have h2 := atS_max (grp X Y) 7 X.length (by omega)
    unfold manyM atM
    omega
  have hm := manyM_le h8
  have hs := txt6_nl h8
  have hx := nl_len X
  have hy := nl_len Y
  rw [hN] at hs
  generalize (txt6 (grp X Y)).size = S at *
  generalize manyM (grp X Y) = k at *
  generalize atM (grp X Y) = a at *
  generalize nl X = p at *
  generalize nl Y = q at *
  generalize (if X = [] then 0 else 1) = x0 at *
  generalize (if Y = [] then 0 else 1) = y0 at *
  split at hs
  · split at hs <;> split at hs <;> omega
  · omega
theorem txt6_full {us : List Nat} (h8 : us.length = 8) {P : Nat} (hP : nl us ≤ P + 1) : (txt6 us).size ≤ P := by
  have hm := manyM_le h8
  have hs := txt6_nl h8
  split at hs
  · split at hs <;> split at hs <;> omega
  · omega
theorem gsA_adG {us : List Nat} (h8 : us.length = 8) (hlt : ∀ u ∈ us, u < 65536) : gsA (adG us) = us := by
  match us, h8 with
  | [a, b, c, d, e, f, g, h], _ =>
    have ha := hlt a (by simp)
    have hb := hlt b (by simp)
    have hc := hlt c (by simp)
    have hd := hlt d (by simp)
    have he := hlt e (by simp)
    have hf := hlt f (by simp)
    have hg := hlt g (by simp)
    have hh := hlt h (by simp)
    clear hlt
    unfold gsA adG grA jn
    simp [List.range_succ]
    omega
theorem adG_ok {us : List Nat} (h8 : us.length = 8) (hlt : ∀ u ∈ us, u < 65536) : (adG us).ok := by
  unfold adG Ad.ok
  exact ⟨jn_lt 4 _ (by simp; omega) fun u hu => hlt u (List.mem_of_mem_take hu), jn_lt 4 _ (by simp; omega) fun u hu => hlt u (List.mem_of_mem_drop hu)⟩
theorem oct_len : ∀ {t : List UInt8} {u : Nat}, octP t = some u → (Lib.decDigits u).length ≤ t.length := by
  intro t u h
  have h256 := octP_lt h
  unfold octP at h
  cases hn : num10 t with
  | none => rw [hn] at h; cases h
  | some v =>
    rw [hn] at h
    simp only at h
    split at h
    · cases h
    · cases h
      unfold num10 at hn
      split at hn
      · cases hn
      · have h1 := decG_lt t 0 u hn
        have h3 := dd_le3 h256
        have h10 : ∀ x, x < 256 → (Lib.decDigits x).length = if x < 10 then 1 else if x < 100 then 2 else 3 := by decide +kernel
        rw [h10 u h256] at h3 ⊢
        have hl : t.length = 1 ∨ t.length = 2 ∨ t.length = 3 := by omega
        rcases hl with e | e | e <;> rw [e] at h1 ⊢ <;> simp at h1 <;> (repeat' split) <;> omega
theorem tl_octs : ∀ (ts : List (List UInt8)) (us : List Nat), octs ts = some us → tl (us.map Lib.decDigits) ≤ tl ts
  | [], us, h => by cases h; simp [tl]
  | t :: ts, us, h => by
    simp only [octs] at h
    cases h1 : octP t with
    | none => rw [h1] at h; cases h
    | some u =>
      cases h2 : octs ts with
      | none => rw [h1, h2] at h; cases h
      | some vs =>
        rw [h1, h2] at h
        cases h
        have a := oct_len h1
        have b := tl_octs ts vs h2
        simp only [List.map_cons, tl]
        omega
theorem acc_bytes {us : List Nat} (h4 : us.length = 4) (hlt : ∀ u ∈ us, u < 256) : acc us < 4294967296 ∧ bytesA ⟨false, 0, acc us⟩ = us := by
  match us, h4 with
  | [a, b, c, d], _ =>
    have ha := hlt a (by simp)
    have hb := hlt b (by simp)
    have hc := hlt c (by simp)
    have hd := hlt d (by simp)
    clear hlt
    rw [bytes_lo]
    unfold acc byteA
    simp [List.range_succ]
    omega
/-- Whatever is read as an address. -/
theorem parse_short (s : ByteArray) : ((parseA s).2 = 0 ∧ validA (parseA s).1 = true ∧ (parseA s).1.ok ∧ (txtA (parseA s).1).size ≤ s.size + 1) ∨ parseA s = (⟨false, 0, 0⟩, 20) := by
  unfold parseA
  cases hF : fourP ((spl 46 s).map (·.data.toList)) with
  | some lo =>
    left
    unfold parseR
    simp only
    unfold fourP at hF
    split at hF
    · rename_i h4
      cases ho : octs ((spl 46 s).map (·.data.toList)) with
      | none => rw [ho] at hF; cases hF
      | some us =>
        rw [ho] at hF
        cases hF
        have hl := (octs_len _ _ ho).trans h4
        have h256 := octs_lt _ _ ho
        obtain ⟨hlt, hb⟩ := acc_bytes hl h256
        refine ⟨trivial, by simp [validA, hlt], ⟨by simp, by simp only; omega⟩, ?_⟩
        unfold txtA
        rw [if_neg (by simp)]
        have h1 := tl_octs _ _ ho
        rw [spl_cut, tl_cut, show s.data.toList.length = s.size from Lib.size_eq s] at h1
        simp only
        rw [txt4_bA, hb, bA_size]
        have h2 := tl_join 46 (us.map Lib.decDigits) (by intro e; have := congrArg List.length e; simp at this; rw [this] at hl; cases hl)
        omega
    · cases hF
  | none =>
    cases hS : sixP s with
    | none => right; rfl
    | some a =>
      left
      unfold parseR
      simp only
      unfold sixP sixR at hS
      cases hX : rowP (bA (Lib.cut s.data.toList [58, 58]).1) with
      | none => rw [hX] at hS; cases hS
      | some X =>
        cases hY : rowP (bA (Lib.cut s.data.toList [58, 58]).2.1) with
        | none => rw [hX, hY] at hS; cases hS
        | some Y =>
          rw [hX, hY] at hS
          simp only at hS
          have x16 := rowP_lt hX
          have y16 := rowP_lt hY
          have x1 := rowP_nl hX
          have y1 := rowP_nl hY
          rw [bA_size] at x1 y1
          have hlen : s.data.toList.length = s.size := Lib.size_eq s
          have g16 : ∀ u ∈ grp X Y, u < 65536 := by
            intro u hu
            unfold grp at hu
            rcases List.mem_append.1 hu with h | h
            · exact x16 u h
            · rcases List.mem_append.1 h with h | h
              · have := List.eq_of_mem_replicate h; omega
              · exact y16 u h
          cases hb : (Lib.cut s.data.toList [58, 58]).2.2 with
          | true =>
            rw [hb] at hS
            split at hS
            · cases hS
            · rename_i hn
              have h7 : X.length + Y.length ≤ 7 := by simp at hn; omega
              cases hS
              have h8 := grp_len (show X.length + Y.length ≤ 8 by omega)
              refine ⟨trivial, rfl, adG_ok h8 g16, ?_⟩
              unfold txtA
              rw [if_pos (show (adG (grp X Y)).six = true from rfl), gsA_adG h8 g16]
              have h1 := txt6_gap h7 x1.1 y1.1
              have h2 : (Lib.cut s.data.toList [58, 58]).1.length + 2 + (Lib.cut s.data.toList [58, 58]).2.1.length = s.size := by
                have hr := Lib.index_room s.data.toList [58, 58]
                unfold Lib.cut at hb ⊢
                split at hb
                · rename_i h0
                  rw [if_pos h0]
                  have := hr h0
                  simp only [List.length_take, List.length_drop, List.length_cons, List.length_nil] at this ⊢
                  omega
                · cases hb
              omega
          | false =>
            rw [hb] at hS
            split at hS
            · cases hS
            · rename_i hn
              have h8' : X.length + Y.length = 8 := by simp at hn; omega
              cases hS
              have h2 : (Lib.cut s.data.toList [58, 58]).1 = s.data.toList ∧ (Lib.cut s.data.toList [58, 58]).2.1 = [] := by
                unfold Lib.cut at hb ⊢
                split at hb
                · cases hb
                · rename_i h0
                  rw [if_neg h0]
                  exact ⟨rfl, rfl⟩
              rw [h2.2] at hY
              rw [h2.1] at x1
              have : Y = [] := by
                have : rowP (bA []) = some [] := rfl
                rw [this] at hY
                cases hY
                rfl
              subst this
              have h8 := grp_len (show X.length + ([] : List Nat).length ≤ 8 by omega)
              have e : grp X [] = X := by
                unfold grp
                simp at h8' ⊢
                omega
              rw [e] at g16 ⊢
              have hX8 : X.length = 8 := by simpa using h8'
              refine ⟨trivial, rfl, adG_ok hX8 g16, ?_⟩
              unfold txtA
              rw [if_pos (show (adG X).six = true from rfl), gsA_adG hX8 g16]
              have h3 := txt6_full hX8 (P := s.size) (by have := x1.1; split at this <;> omega)
              omega
end Go.Proofs.YtndjijadalkidaaDoor
