/- Plain laws for ArenaHistory: cells one by one, a hole, what is held. -/
import Derived.Test.YtncjhfofmeamdaaTwo
namespace Go.Proofs.Ytncjhfofmeamdaa
open Go.RowKit

/-- The cell c lies in the block p. -/
def Has (p : Nat × Nat) (c : Nat) : Prop := p.1 ≤ c ∧ c < p.1 + 2 ^ p.2
instance (p : Nat × Nat) (c : Nat) : Decidable (Has p c) := by unfold Has; infer_instance
theorem Has.self (p : Nat × Nat) : Has p p.1 := ⟨Nat.le_refl _, by have := p2 p.2; omega⟩
theorem clr_has {U : Tk} {x j c : Nat} (h : clr U x j) (hc : x ≤ c ∧ c < x + 2 ^ j) {p : Nat × Nat} (hp : p ∈ U) : ¬ Has p c := fun k => by
  have := h p hp
  unfold Dis at this
  unfold Has at k
  omega
theorem dis_has {p q : Nat × Nat} (h : Dis p.1 p.2 q.1 q.2) {c : Nat} (hp : Has p c) : ¬ Has q c := fun k => by
  unfold Dis at h
  unfold Has at k hp
  omega
theorem fit_hole {n : Nat} {U : Tk} {x k : Nat} (hd : Dy x k) (hk : k ≤ n) (hxn : x + 2 ^ k ≤ 2 ^ n) (hc : clr U x k) (hcov : ∀ c, c < 2 ^ n → ¬ (x ≤ c ∧ c < x + 2 ^ k) → ∃ p, p ∈ U ∧ Has p c) : Fit n U k k x := by
  refine ⟨Nat.le_refl _, hk, fun j h1 h2 => by omega, ⟨hk, hd, hxn, hc, ?_⟩, fun y hy => ?_⟩
  · rcases Nat.lt_or_ge k n with hkn | hkn
    · right
      intro hcl
      have hb := par_le hd hkn hxn
      have hps := p2s k
      have hpk := p2 k
      have hbd : par x k ≤ bud x k ∧ bud x k < par x k + 2 ^ (k + 1) ∧ ¬ (x ≤ bud x k ∧ bud x k < x + 2 ^ k) := by
        unfold bud
        rcases par_half hd with h | h
        · rw [if_pos h]; omega
        · rw [if_neg (by omega)]; omega
      obtain ⟨p, hp, hh⟩ := hcov (bud x k) (by omega) hbd.2.2
      exact clr_has hcl ⟨hbd.1, hbd.2.1⟩ hp hh
    · left; omega
  · rcases Nat.lt_or_ge y x with hyx | hyx
    · exfalso
      obtain ⟨p, hp, hh⟩ := hcov y hy.lt (by omega)
      exact clr_has hy.2.2.2.1 ⟨Nat.le_refl _, by have := p2 k; omega⟩ hp hh
    · exact hyx
/-- A clear block lies in a free one. -/
theorem frb_of {n : Nat} {U : Tk} : ∀ (d j y : Nat), j + d = n → Dy y j → y + 2 ^ j ≤ 2 ^ n → clr U y j → ∃ i z, j ≤ i ∧ Frb n U i z ∧ In z i y j
  | 0, j, y, hd, hy, hyn, hc => ⟨j, y, Nat.le_refl _, ⟨by omega, hy, hyn, hc, .inl (by omega)⟩, In.refl _ _⟩
  | d + 1, j, y, hd, hy, hyn, hc => by
    by_cases h : clr U (par y j) (j + 1)
    · obtain ⟨i, z, h1, h2, h3⟩ := frb_of d (j + 1) (par y j) (by omega) (par_dy y j) (par_le hy (by omega) hyn) h
      exact ⟨i, z, by omega, h2, h3.trans (par_in hy)⟩
    · exact ⟨j, y, Nat.le_refl _, ⟨by omega, hy, hyn, hc, .inr h⟩, In.refl _ _⟩
/-- The cells ahead of i are taken, one by one. -/
def Cel (U : Tk) (i : Nat) : Prop := ∀ p, p ∈ U ↔ p.2 = 0 ∧ p.1 < i
theorem dis_cell {x j c : Nat} : Dis x j c 0 ↔ ¬ (x ≤ c ∧ c < x + 2 ^ j) := by
  unfold Dis
  rw [show (2 : Nat) ^ 0 = 1 from rfl]
  omega
theorem Cel.clr {U : Tk} {i : Nat} (h : Cel U i) {x j : Nat} : clr U x j ↔ i ≤ x := by
  constructor
  · intro k
    rcases Nat.lt_or_ge x i with h1 | h1
    · exfalso
      exact clr_has k ⟨Nat.le_refl _, by have := p2 j; omega⟩ ((h (x, 0)).2 ⟨rfl, h1⟩) (Has.self (x, 0))
    · exact h1
  · intro k p hp
    obtain ⟨h1, h2⟩ := (h p).1 hp
    obtain ⟨c, o⟩ := p
    simp only at h1 h2
    subst h1
    rw [dis_cell]
    omega
theorem Cel.fit {n : Nat} {U : Tk} {i : Nat} (h : Cel U i) (hi : i < 2 ^ n) {o k a : Nat} (hf : Fit n U 0 k a) : a = i ∧ o = o := by
  refine ⟨?_, rfl⟩
  obtain ⟨h1, h2, h3, h4, h5⟩ := hf
  have hai := h.clr.1 h4.2.2.2.1
  obtain ⟨j, z, _, hz, hin⟩ := frb_of (n := n) n 0 i (by omega) ⟨i, by simp⟩ (by simpa using Nat.succ_le_of_lt hi) (h.clr.2 (Nat.le_refl _))
  have hzi := h.clr.1 hz.2.2.2.1
  obtain rfl : z = i := by have := hin.1; omega
  have hkj : k ≤ j := by
    rcases Nat.lt_or_ge j k with hjk | hjk
    · exact absurd hz (h3 j (Nat.zero_le _) hjk z)
    · exact hjk
  rcases Nat.lt_or_ge z a with hlt | hge
  · exfalso
    -- a lies behind the block at z
    have hdis : Dis z j a k := by
      rcases dy_cases hz.2.1 h4.2.1 hkj with hh | hh
      · exfalso
        rcases Nat.lt_or_ge k j with hkj' | hkj'
        · exact (h4.great hz.2.1 hz.2.2.1 hkj' hh) hz.2.2.2.1
        · obtain rfl : k = j := by omega
          have := hh.2; omega
      · exact hh
    have hza : z + 2 ^ j ≤ a := by
      unfold Dis at hdis
      have := p2 k
      omega
    rcases h4.2.2.2.2 with rfl | hn
    · have := h4.2.2.1
      have := p2 j
      omega
    · refine hn (h.clr.2 ?_)
      have := p2le hkj
      rcases par_half h4.2.1 with h6 | h6 <;> omega
  · omega
theorem Cel.take {n : Nat} {U U' : Tk} {i : Nat} (h : Cel U i) (hi : i < 2 ^ n) {r c : Int} (hr : TakeR n U 0 r c U') : r = i ∧ c = 0 ∧ Cel U' (i + 1) := by
  rcases hr with ⟨h1, _⟩ | ⟨o, ho, _, ⟨hno, _⟩ | ⟨k, a, hf, rfl, rfl, rfl⟩⟩
  · omega
  · obtain rfl : o = 0 := by omega
    exfalso
    obtain ⟨j, z, _, hz, hin⟩ := frb_of (n := n) n 0 i (by omega) ⟨i, by simp⟩ (by simpa using Nat.succ_le_of_lt hi) (h.clr.2 (Nat.le_refl _))
    exact hno j (Nat.zero_le _) hz.1 z hz
  · obtain rfl : o = 0 := by omega
    obtain ⟨rfl, _⟩ := h.fit (o := 0) hi hf
    refine ⟨rfl, rfl, fun p => ?_⟩
    rw [List.mem_append, h p, List.mem_singleton]
    obtain ⟨x, y⟩ := p
    simp only [Prod.mk.injEq]
    omega

/-- The first i blocks of L are taken, and each cell that lies in none of them; of the block at x its first j cells are not. -/
def Mid (n : Nat) (L : Tk) (i x j : Nat) (U : Tk) : Prop := ∀ p, p ∈ U ↔ p ∈ L.take i ∨ (p.2 = 0 ∧ p.1 < 2 ^ n ∧ (∀ q, q ∈ L.take i → ¬ Has q p.1) ∧ ¬ (x ≤ p.1 ∧ p.1 < x + j))
theorem Mid.start {n : Nat} {L U : Tk} (h : Cel U (2 ^ n)) (x : Nat) : Mid n L 0 x 0 U := fun p => by
  rw [h p]
  simp only [List.take_zero, List.not_mem_nil, false_or, false_implies, implies_true, true_and, Nat.add_zero]
  omega
/-- Two places of a list. -/
theorem pair_at {L : Tk} {R : Nat × Nat → Nat × Nat → Prop} (h : L.Pairwise R) {i : Nat} {p q : Nat × Nat} (hp : L[i]? = some p) (hq : q ∈ L.take i) : R q p := by
  obtain ⟨hi, rfl⟩ := List.getElem?_eq_some_iff.1 hp
  obtain ⟨j, hj, rfl⟩ := List.getElem_of_mem hq
  rw [List.length_take] at hj
  rw [List.getElem_take]
  exact List.pairwise_iff_getElem.1 h j i (by omega) hi (by omega)
section
variable {n : Nat} {L U U' : Tk} {i x k j m : Nat}
theorem Mid.give (hL : TOk n L) (hp : L[i]? = some (x, k)) (hj : j < 2 ^ k) (h : Mid n L i x j U) {c : Int} (hg : GiveR U ((x : Int) + (j : Int)) c U') : c = 0 ∧ Mid n L i x (j + 1) U' := by
  have hm := List.mem_of_getElem? hp
  have hxn := (hL.dy _ hm).2.2
  simp only at hxn
  have hun : ∀ q, q ∈ L.take i → ¬ Has q (x + j) := fun q hq hh => by
    have h1 := pair_at hL.dis hp hq
    exact dis_has h1 hh ⟨by simp, by simp; omega⟩
  have hin : (x + j, 0) ∈ U := (h _).2 (.inr ⟨rfl, by simp; omega, hun, by simp⟩)
  rcases hg with ⟨h1, _⟩ | ⟨a, o, e, h1, rfl, rfl⟩
  · exact absurd (by simp) (h1 _ hin)
  · obtain rfl : a = x + j := by omega
    refine ⟨rfl, fun p => ?_⟩
    rw [drop_iff, h p]
    constructor
    · rintro ⟨h2 | ⟨h2, h3, h4, h5⟩, h6⟩
      · exact .inl h2
      · exact .inr ⟨h2, h3, h4, by omega⟩
    · rintro (h2 | ⟨h2, h3, h4, h5⟩)
      · refine ⟨.inl h2, fun e2 => ?_⟩
        exact hun p h2 (e2 ▸ Has.self p)
      · exact ⟨.inr ⟨h2, h3, h4, by omega⟩, by omega⟩
theorem Mid.take (hL : TOk n L) (hp : L[i]? = some (x, k)) (h : Mid n L i x (2 ^ k) U) {r c : Int} (hr : TakeR n U (k : Int) r c U') (y : Nat) : r = x ∧ c = 0 ∧ Mid n L (i + 1) y 0 U' := by
  have hm := List.mem_of_getElem? hp
  obtain ⟨hd, hkn, hxn⟩ := hL.dy _ hm
  simp only at hd hkn hxn
  have hfit : Fit n U k k x := by
    refine fit_hole hd hkn hxn (fun p hpU => ?_) fun c hc hnc => ?_
    · rcases (h p).1 hpU with h1 | ⟨h1, h2, h3, h4⟩
      · exact (pair_at hL.dis hp h1).symm
      · obtain ⟨a, o⟩ := p
        simp only at h1 h4
        subst h1
        exact dis_cell.2 h4
    · by_cases hq : ∃ q, q ∈ L.take i ∧ Has q c
      · obtain ⟨q, hq, hh⟩ := hq
        exact ⟨q, (h q).2 (.inl hq), hh⟩
      · exact ⟨(c, 0), (h _).2 (.inr ⟨rfl, hc, fun q h1 h2 => hq ⟨q, h1, h2⟩, hnc⟩), Has.self (c, 0)⟩
  rcases hr with ⟨h1, _⟩ | ⟨o, ho, _, ⟨hno, _⟩ | ⟨k', a, hf, rfl, rfl, rfl⟩⟩
  · omega
  · obtain rfl : k = o := by omega
    exact (hfit.no hno).elim
  · obtain rfl : k = o := by omega
    obtain ⟨_, rfl⟩ := hfit.eq hf
    refine ⟨rfl, rfl, fun p => ?_⟩
    rw [List.mem_append, h p, List.mem_singleton, List.take_add_one, hp, List.mem_append]
    simp only [Option.toList_some, List.mem_singleton, Nat.add_zero]
    constructor
    · rintro ((h1 | ⟨h1, h2, h3, h4⟩) | rfl)
      · exact .inl (.inl h1)
      · refine .inr ⟨h1, h2, fun q hq => ?_, by omega⟩
        rcases List.mem_append.1 hq with hq | hq
        · exact h3 q hq
        · obtain rfl : q = (x, k) := by simpa using hq
          exact fun hh => h4 ⟨hh.1, hh.2⟩
      · exact .inl (.inr rfl)
    · rintro ((h1 | rfl) | ⟨h1, h2, h3, h4⟩)
      · exact .inl (.inl h1)
      · exact .inr rfl
      · refine .inl (.inr ⟨h1, h2, fun q hq => h3 q (List.mem_append_left _ hq), fun hh => ?_⟩)
        exact h3 (x, k) (by simp) ⟨hh.1, hh.2⟩
/-- The blocks of L are taken, and each cell from m on that lies in none of them. -/
def End3 (n : Nat) (L : Tk) (m : Nat) (U : Tk) : Prop := ∀ p, p ∈ U ↔ p ∈ L ∨ (p.2 = 0 ∧ p.1 < 2 ^ n ∧ (∀ q, q ∈ L → ¬ Has q p.1) ∧ m ≤ p.1)
theorem Mid.end3 (h : Mid n L L.length x 0 U) : End3 n L 0 U := fun p => by
  rw [h p, List.take_length]
  simp only [Nat.add_zero, Nat.zero_le, and_true]
  constructor
  · rintro (h1 | ⟨h1, h2, h3, _⟩)
    · exact .inl h1
    · exact .inr ⟨h1, h2, h3⟩
  · rintro (h1 | ⟨h1, h2, h3⟩)
    · exact .inl h1
    · exact .inr ⟨h1, h2, h3, by omega⟩
theorem End3.held (h : End3 n L m U) (hh : ∃ q, q ∈ L ∧ Has q m) : End3 n L (m + 1) U := fun p => by
  rw [h p]
  constructor
  · rintro (h1 | ⟨h1, h2, h3, h4⟩)
    · exact .inl h1
    · refine .inr ⟨h1, h2, h3, ?_⟩
      rcases Nat.lt_or_ge m p.1 with h5 | h5
      · exact h5
      · obtain ⟨q, hq, hh⟩ := hh
        have e : p.1 = m := by omega
        exact absurd (e ▸ hh) (h3 q hq)
  · rintro (h1 | ⟨h1, h2, h3, h4⟩)
    · exact .inl h1
    · exact .inr ⟨h1, h2, h3, by omega⟩
theorem End3.give (h : End3 n L m U) (hm : m < 2 ^ n) (hh : ¬ ∃ q, q ∈ L ∧ Has q m) {c : Int} (hg : GiveR U (m : Int) c U') : c = 0 ∧ End3 n L (m + 1) U' := by
  have hin : (m, 0) ∈ U := (h _).2 (.inr ⟨rfl, hm, fun q h1 h2 => hh ⟨q, h1, h2⟩, Nat.le_refl _⟩)
  rcases hg with ⟨h1, _⟩ | ⟨a, o, e, h1, rfl, rfl⟩
  · exact absurd rfl (h1 _ hin)
  · obtain rfl : m = a := by omega
    refine ⟨rfl, fun p => ?_⟩
    rw [drop_iff, h p]
    constructor
    · rintro ⟨h2 | ⟨h2, h3, h4, h5⟩, h6⟩
      · exact .inl h2
      · exact .inr ⟨h2, h3, h4, by omega⟩
    · rintro (h2 | ⟨h2, h3, h4, h5⟩)
      · exact ⟨.inl h2, fun e2 => hh ⟨p, h2, e2 ▸ Has.self p⟩⟩
      · exact ⟨.inr ⟨h2, h3, h4, by omega⟩, by omega⟩
theorem End3.sm (h : End3 n L (2 ^ n) U) : Sm L U := fun p => by
  rw [h p]
  constructor
  · exact .inl
  · rintro (h1 | ⟨_, h2, _, h3⟩)
    · exact h1
    · omega
end
theorem TOk.srt {n : Nat} {T : Tk} (h : TOk n T) : TOk n (srt T) :=
  ⟨fun p hp => h.dy p ((srt_perm T).mem_iff.1 hp), (srt_perm T).symm.pairwise h.dis fun h => h.symm⟩
/-- Whether one of the first j has a cell. -/
def heldB (L : Tk) (j c : Nat) : Bool := (L.take j).any fun q => decide (Has q c)
theorem heldB_succ {L : Tk} {j c : Nat} {p : Nat × Nat} (hp : L[j]? = some p) : heldB L (j + 1) c = (heldB L j c || decide (Has p c)) := by
  unfold heldB
  rw [List.take_add_one, hp, List.any_append]
  simp
theorem heldB_iff {L : Tk} {c : Nat} : heldB L L.length c = true ↔ ∃ q, q ∈ L ∧ Has q c := by
  unfold heldB
  rw [List.take_length, List.any_eq_true]
  simp

/-- Two arenas in blocks of K. -/
def TwoK (w : World) (K : Nat → Prop) (a b n : Nat) (T U : Tk) : Prop :=
  ∃ S1 S2 : Nat → Prop, Liv w S1 a n T ∧ Liv w S2 b n U ∧ (∀ i, S1 i → K i ∧ i < w.heap.size) ∧ (∀ i, S2 i → K i ∧ i < w.heap.size) ∧ ∀ i, S1 i → ¬ S2 i
section
variable {w w' : World} {K : Nat → Prop} {B a b n : Nat} {T U T' : Tk}
theorem Two.k (h : Two w B a b n T U) (k : Fr (fun _ => False) w w') {g : Nat} (hg : w.heap.size ≤ g) : TwoK w' (fun i => B ≤ i ∧ i ≠ g) a b n T U := by
  obtain ⟨S1, S2, h1, h2, h3, h4, h5⟩ := h
  exact ⟨S1, S2, h1.fr0 k, h2.fr0 k, fun i hi => ⟨⟨(h3 i hi).1, by have := (h3 i hi).2; omega⟩, Nat.lt_of_lt_of_le (h3 i hi).2 k.size⟩, fun i hi => ⟨⟨(h4 i hi).1, by have := (h4 i hi).2; omega⟩, Nat.lt_of_lt_of_le (h4 i hi).2 k.size⟩, h5⟩
theorem TwoK.two (h : TwoK w K a b n T U) (hK : ∀ i, K i → B ≤ i) : Two w B a b n T U := by
  obtain ⟨S1, S2, h1, h2, h3, h4, h5⟩ := h
  exact ⟨S1, S2, h1, h2, fun i hi => ⟨hK i (h3 i hi).1, (h3 i hi).2⟩, fun i hi => ⟨hK i (h4 i hi).1, (h4 i hi).2⟩, h5⟩
theorem TwoK.l (h : TwoK w K a b n T U) : ∃ S, Liv w S a n T := by
  obtain ⟨S1, S2, h1, _⟩ := h
  exact ⟨S1, h1⟩
theorem TwoK.r (h : TwoK w K a b n T U) : ∃ S, Liv w S b n U := by
  obtain ⟨S1, S2, _, h2, _⟩ := h
  exact ⟨S2, h2⟩
theorem TwoK.fr0 (h : TwoK w K a b n T U) (k : Fr (fun _ => False) w w') : TwoK w' K a b n T U := by
  obtain ⟨S1, S2, h1, h2, h3, h4, h5⟩ := h
  exact ⟨S1, S2, h1.fr0 k, h2.fr0 k, fun i hi => ⟨(h3 i hi).1, Nat.lt_of_lt_of_le (h3 i hi).2 k.size⟩, fun i hi => ⟨(h4 i hi).1, Nat.lt_of_lt_of_le (h4 i hi).2 k.size⟩, h5⟩
theorem TwoK.on (h : TwoK w K a b n T U) (hK : ∀ i, w.heap.size ≤ i → K i) {f : FuncId} {args : Array Value} {P : Ending → Tk → Prop}
    (hc : ∀ S, Liv w S b n U → Calls Try.prog f args w fun e w' => ∃ T', P e T' ∧ LivE w S b n T' w') :
    Calls Try.prog f args w fun e w' => ∃ T', P e T' ∧ TwoK w' K a b n T T' ∧ Fr K w w' := by
  obtain ⟨S2, S1, h2, h1, h4, h3, h5⟩ := h
  refine (hc _ h1).mono ?_
  rintro e w' ⟨T', hp, hl, hf⟩
  refine ⟨T', hp, ⟨S2, _, h2.fr hf fun i k2 k1 => h5 i k2 k1, hl.within, ?_, ?_, ?_⟩, hf.mono fun i _ hi => (h3 i hi).1⟩
  · exact fun i hi => ⟨(h4 i hi).1, Nat.lt_of_lt_of_le (h4 i hi).2 hf.size⟩
  · rintro i ⟨hi | hi, hlt⟩
    · exact ⟨(h3 i hi).1, hlt⟩
    · exact ⟨hK i hi, hlt⟩
  · rintro i k2 ⟨hi | hi, hlt⟩
    · exact h5 i k2 hi
    · have := (h4 i k2).2
      omega
theorem TwoK.give (h : TwoK w K a b n T U) (hK : ∀ i, w.heap.size ≤ i → K i) (x : Int) (h1 : -9223372036854775808 ≤ x) (h2 : x ≤ 9223372036854775807) :
    Calls Try.prog 13 #[.pointer (some ⟨b, 0, none⟩), .int .i64 x] w fun e w' => ∃ (c : Int) (U' : Tk), e = .returned (.int .i64 c) ∧ GiveR U x c U' ∧ TwoK w' K a b n T U' ∧ Fr K w w' := by
  refine (h.on hK (P := fun e T' => ∃ c : Int, e = .returned (.int .i64 c) ∧ GiveR U x c T') fun S hS => (hS.give_r x h1 h2).mono ?_).mono ?_
  · rintro e w' ⟨c, T', rfl, hg, hl⟩
    exact ⟨T', ⟨c, rfl, hg⟩, hl⟩
  · rintro e w' ⟨T', ⟨c, rfl, hg⟩, h3, h4⟩
    exact ⟨c, T', rfl, hg, h3, h4⟩
theorem TwoK.take (h : TwoK w K a b n T U) (hK : ∀ i, w.heap.size ≤ i → K i) (x : Int) :
    Calls Try.prog 15 #[.pointer (some ⟨b, 0, none⟩), .int .i64 x] w fun e w' => ∃ (r c : Int) (U' : Tk), e = .returned (.tuple #[.int .i64 r, .int .i64 c]) ∧ TakeR n U x r c U' ∧ TwoK w' K a b n T U' ∧ Fr K w w' := by
  refine (h.on hK (P := fun e T' => ∃ r c : Int, e = .returned (.tuple #[.int .i64 r, .int .i64 c]) ∧ TakeR n U x r c T') fun S hS => (hS.take_r x).mono ?_).mono ?_
  · rintro e w' ⟨r, c, T', rfl, hg, hl⟩
    exact ⟨T', ⟨r, c, rfl, hg⟩, hl⟩
  · rintro e w' ⟨T', ⟨r, c, rfl, hg⟩, h3, h4⟩
    exact ⟨r, c, T', rfl, hg, h3, h4⟩
end
end Go.Proofs.Ytncjhfofmeamdaa
