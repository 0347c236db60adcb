/- Two arenas side by side; what is taken and given back hangs on what is taken alone. -/
import Derived.Test.YtncjhfofmeamdaaSrd
namespace Go.Proofs.Ytncjhfofmeamdaa
open Go.RowKit

/-- The same blocks are taken. -/
def Sm (T U : Tk) : Prop := ∀ p, p ∈ T ↔ p ∈ U
theorem Sm.refl (T : Tk) : Sm T T := fun _ => Iff.rfl
theorem Sm.symm {T U : Tk} (h : Sm T U) : Sm U T := fun p => (h p).symm
theorem Sm.nil {T : Tk} (h : Sm T []) : T = [] := by
  cases T with
  | nil => rfl
  | cons p r => exact absurd ((h p).1 (List.mem_cons_self ..)) (by simp)
theorem keys_nodup {T : Tk} (h : T.Pairwise fun p q => p.1 ≠ q.1) : T.Nodup := h.imp fun {a b} hab e => hab (by rw [e])
theorem Sm.perm {T U : Tk} (h : Sm T U) {n : Nat} (hT : TOk n T) (hU : TOk n U) : T.Perm U := (List.perm_ext_iff_of_nodup (keys_nodup hT.keys) (keys_nodup hU.keys)).2 h
theorem Sm.clr {T U : Tk} (h : Sm T U) {x j : Nat} : clr T x j ↔ clr U x j := ⟨fun k p hp => k p ((h p).2 hp), fun k p hp => k p ((h p).1 hp)⟩
theorem Sm.frb {T U : Tk} (h : Sm T U) {n j x : Nat} : Frb n T j x ↔ Frb n U j x := by unfold Frb; rw [h.clr, h.clr]
theorem Sm.nofit {T U : Tk} (h : Sm T U) {n o : Nat} (k : NoFit n T o) : NoFit n U o := fun j h1 h2 x hx => k j h1 h2 x (h.frb.2 hx)
theorem Sm.fit {T U : Tk} (h : Sm T U) {n o k a : Nat} (hf : Fit n T o k a) : Fit n U o k a :=
  ⟨hf.1, hf.2.1, fun j h1 h2 x hx => hf.2.2.1 j h1 h2 x (h.frb.2 hx), h.frb.1 hf.2.2.2.1, fun x hx => hf.2.2.2.2 x (h.frb.2 hx)⟩
theorem Sm.great {T U : Tk} (h : Sm T U) {n : Nat} {g : Int} (hg : Great n T g) : Great n U g :=
  ⟨hg.1, hg.2.1, fun j h1 h2 x hx => hg.2.2.1 j h1 h2 x (h.frb.2 hx), fun h0 => by obtain ⟨x, hx⟩ := hg.2.2.2 h0; exact ⟨x, h.frb.1 hx⟩⟩
theorem Fit.eq {n : Nat} {T : Tk} {o k a k' a' : Nat} (h : Fit n T o k a) (h' : Fit n T o k' a') : k = k' ∧ a = a' := by
  obtain ⟨h1, h2, h3, h4, h5⟩ := h
  obtain ⟨g1, g2, g3, g4, g5⟩ := h'
  have hk : k = k' := by
    rcases Nat.lt_trichotomy k k' with h | h | h
    · exact absurd h4 (g3 k h1 h a)
    · exact h
    · exact absurd g4 (h3 k' g1 h a')
  subst hk
  exact ⟨rfl, Nat.le_antisymm (h5 _ g4) (g5 _ h4)⟩
theorem Fit.no {n : Nat} {T : Tk} {o k a : Nat} (h : Fit n T o k a) (h' : NoFit n T o) : False := h' k h.1 h.2.1 a h.2.2.2.1
theorem drop_len {T : Tk} (hk : T.Pairwise fun p q => p.1 ≠ q.1) {a o : Nat} (h : (a, o) ∈ T) : (drop T a).length + 1 = T.length := by
  induction T with
  | nil => cases h
  | cons p r ih =>
    obtain ⟨h1, h2⟩ := List.pairwise_cons.1 hk
    unfold drop at *
    rcases List.mem_cons.1 h with rfl | h3
    · have h4 : r.filter (fun p => decide (p.1 ≠ a)) = r := List.filter_eq_self.2 fun q hq => by simpa using fun e => h1 q hq e.symm
      rw [List.filter_cons, if_neg (by simp), h4, List.length_cons]
    · have h5 := ih h2 h3
      have h6 : p.1 ≠ a := h1 _ h3
      rw [List.filter_cons, if_pos (by simpa using h6), List.length_cons, List.length_cons]
      omega

/-- What a taking answers, and leaves. -/
def TakeR (n : Nat) (T : Tk) (x : Int) (r c : Int) (T' : Tk) : Prop :=
  ((x < 0 ∨ (n : Int) < x) ∧ r = 0 ∧ c = 1 ∧ T' = T) ∨ ∃ o : Nat, x = o ∧ o ≤ n ∧ ((NoFit n T o ∧ r = 0 ∧ c = 90 ∧ T' = T) ∨ ∃ k a : Nat, Fit n T o k a ∧ r = a ∧ c = 0 ∧ T' = T ++ [(a, o)])
def GiveR (T : Tk) (x : Int) (c : Int) (T' : Tk) : Prop :=
  ((∀ p, p ∈ T → (p.1 : Int) ≠ x) ∧ c = 91 ∧ T' = T) ∨ ∃ a o : Nat, x = a ∧ (a, o) ∈ T ∧ c = 0 ∧ T' = drop T a
theorem TakeR.eq {n : Nat} {T U T' U' : Tk} {x r r' c c' : Int} (hs : Sm T U) (h : TakeR n T x r c T') (h' : TakeR n U x r' c' U') : r = r' ∧ c = c' ∧ Sm T' U' := by
  rcases h with ⟨h1, rfl, rfl, rfl⟩ | ⟨o, rfl, ho, ⟨h1, rfl, rfl, rfl⟩ | ⟨k, a, h1, rfl, rfl, rfl⟩⟩ <;>
    rcases h' with ⟨g1, rfl, rfl, rfl⟩ | ⟨o', e, ho', ⟨g1, rfl, rfl, rfl⟩ | ⟨k', a', g1, rfl, rfl, rfl⟩⟩
  · exact ⟨rfl, rfl, hs⟩
  · omega
  · omega
  · omega
  · exact ⟨rfl, rfl, hs⟩
  · obtain rfl : o = o' := by omega
    exact (g1.no (hs.nofit h1)).elim
  · omega
  · obtain rfl : o = o' := by omega
    exact ((hs.fit h1).no g1).elim
  · obtain rfl : o = o' := by omega
    obtain ⟨rfl, rfl⟩ := (hs.fit h1).eq g1
    refine ⟨rfl, rfl, fun p => ?_⟩
    rw [List.mem_append, List.mem_append, hs p]
theorem drop_iff {T : Tk} {a : Nat} {p : Nat × Nat} : p ∈ drop T a ↔ p ∈ T ∧ p.1 ≠ a := by unfold drop; rw [List.mem_filter]; simp
theorem GiveR.eq {T U T' U' : Tk} {x c c' : Int} (hs : Sm T U) (h : GiveR T x c T') (h' : GiveR U x c' U') : c = c' ∧ Sm T' U' := by
  rcases h with ⟨h1, rfl, rfl⟩ | ⟨a, o, rfl, h1, rfl, rfl⟩ <;> rcases h' with ⟨g1, rfl, rfl⟩ | ⟨a', o', e, g1, rfl, rfl⟩
  · exact ⟨rfl, hs⟩
  · exact absurd e.symm (h1 _ ((hs _).2 g1))
  · exact absurd rfl (g1 _ ((hs _).1 h1))
  · obtain rfl : a = a' := by omega
    refine ⟨rfl, fun p => ?_⟩
    rw [drop_iff, drop_iff, hs p]

section
variable {w w' : World} {S : Nat → Prop} {b n : Nat} {T : Tk}
theorem Liv.give_r (h : Liv w S b n T) (a : Int) (h1 : -9223372036854775808 ≤ a) (h2 : a ≤ 9223372036854775807) :
    Calls Try.prog 13 #[.pointer (some ⟨b, 0, none⟩), .int .i64 a] w fun e w' => ∃ (c : Int) (T' : Tk), e = .returned (.int .i64 c) ∧ GiveR T a c T' ∧ LivE w S b n T' w' := by
  by_cases hno : ∀ p, p ∈ T → (p.1 : Int) ≠ a
  · refine (h.give_no a h1 h2 hno).mono ?_
    rintro e w' ⟨rfl, rfl⟩
    exact ⟨91, T, rfl, .inl ⟨hno, rfl, rfl⟩, LivE.same h⟩
  · simp only [Classical.not_forall, ne_eq, Classical.not_not] at hno
    obtain ⟨⟨x, o⟩, hp, rfl⟩ := hno
    refine (h.give hp).mono ?_
    rintro e w' ⟨rfl, hl⟩
    exact ⟨0, _, rfl, .inr ⟨x, o, rfl, hp, rfl, rfl⟩, hl⟩
theorem Liv.take_r (h : Liv w S b n T) (o : Int) :
    Calls Try.prog 15 #[.pointer (some ⟨b, 0, none⟩), .int .i64 o] w fun e w' => ∃ (a c : Int) (T' : Tk), e = .returned (.tuple #[.int .i64 a, .int .i64 c]) ∧ TakeR n T o a c T' ∧ LivE w S b n T' w' := by
  by_cases ho : o < 0 ∨ (n : Int) < o
  · refine (h.take_arg o ho).mono ?_
    rintro e w' ⟨rfl, rfl⟩
    exact ⟨0, 1, T, rfl, .inl ⟨ho, rfl, rfl, rfl⟩, LivE.same h⟩
  · obtain ⟨k, rfl⟩ : ∃ k : Nat, o = k := ⟨o.toNat, by omega⟩
    rcases h.fit (o := k) (by omega) with h1 | ⟨j, a, h1⟩
    · refine (h.take_no k (by omega) h1).mono ?_
      rintro e w' ⟨rfl, rfl⟩
      exact ⟨0, 90, T, rfl, .inr ⟨k, rfl, by omega, .inl ⟨h1, rfl, rfl, rfl⟩⟩, LivE.same h⟩
    · refine (h.take h1).mono ?_
      rintro e w' ⟨rfl, hl⟩
      exact ⟨_, 0, _, rfl, .inr ⟨k, rfl, by omega, .inr ⟨j, a, h1, rfl, rfl, rfl⟩⟩, hl⟩
theorem Liv.within (h : Liv w S b n T) : Liv w (fun i => S i ∧ i < w.heap.size) b n T := by
  obtain ⟨h1, h2, m, fb, A, c, f, h3, h4, h5, h6⟩ := h
  exact ⟨h1, h2, m, fb, A, c, f, h3, h4, h5, fun i hi => ⟨h6 i hi, h3.in_ hi⟩⟩
end

/-- Two of them, in blocks from B on. -/
def Two (w : World) (B a b n : Nat) (T U : Tk) : Prop :=
  ∃ S1 S2 : Nat → Prop, Liv w S1 a n T ∧ Liv w S2 b n U ∧ (∀ i, S1 i → B ≤ i ∧ i < w.heap.size) ∧ (∀ i, S2 i → B ≤ i ∧ i < w.heap.size) ∧ ∀ i, S1 i → ¬ S2 i
section
variable {w w' : World} {B a b n : Nat} {T U T' : Tk}
theorem Two.swap (h : Two w B a b n T U) : Two w B b a n U T := by
  obtain ⟨S1, S2, h1, h2, h3, h4, h5⟩ := h
  exact ⟨S2, S1, h2, h1, h4, h3, fun i k1 k2 => h5 i k2 k1⟩
theorem Two.l (h : Two w B a b n T U) : ∃ S, Liv w S a n T := by
  obtain ⟨S1, S2, h1, _⟩ := h
  exact ⟨S1, h1⟩
theorem Two.fr0 (h : Two w B a b n T U) (k : Fr (fun _ => False) w w') : Two w' B a b n T U := by
  obtain ⟨S1, S2, h1, h2, h3, h4, h5⟩ := h
  exact ⟨S1, S2, h1.fr0 k, h2.fr0 k, fun i hi => ⟨(h3 i hi).1, Nat.lt_of_lt_of_le (h3 i hi).2 k.size⟩, fun i hi => ⟨(h4 i hi).1, Nat.lt_of_lt_of_le (h4 i hi).2 k.size⟩, h5⟩
theorem Two.mk' {w1 : World} (hB : B ≤ w.heap.size) (h : Liv w (fun i => B ≤ i) a n T) (k : Fr (fun _ => False) w w1) (h' : Liv w1 (fun i => w.heap.size ≤ i) b n U) : Two w1 B a b n T U :=
  ⟨_, _, h.within.fr0 k, h'.within, fun _ hi => ⟨hi.1, Nat.lt_of_lt_of_le hi.2 k.size⟩, fun _ hi => ⟨Nat.le_trans hB hi.1, hi.2⟩, fun _ h1 h2 => by omega⟩
theorem Two.on (h : Two w B a b n T U) (hB : B ≤ w.heap.size) {f : FuncId} {args : Array Value} {P : Ending → Tk → Prop}
    (hc : ∀ S, Liv w S a n T → Calls Try.prog f args w fun e w' => ∃ T', P e T' ∧ LivE w S a n T' w') :
    Calls Try.prog f args w fun e w' => ∃ T', P e T' ∧ Two w' B a b n T' U ∧ Fr (fun i => B ≤ i) w w' := by
  obtain ⟨S1, S2, h1, h2, h3, h4, h5⟩ := h
  refine (hc _ h1).mono ?_
  rintro e w' ⟨T', hp, hl, hf⟩
  refine ⟨T', hp, ⟨_, S2, hl.within, h2.fr hf fun i k2 k1 => h5 i k1 k2, ?_, ?_, ?_⟩, hf.mono fun i _ hi => (h3 i hi).1⟩
  · rintro i ⟨hi | hi, hlt⟩
    · exact ⟨(h3 i hi).1, hlt⟩
    · exact ⟨Nat.le_trans hB hi, hlt⟩
  · exact fun i hi => ⟨(h4 i hi).1, Nat.lt_of_lt_of_le (h4 i hi).2 hf.size⟩
  · rintro i ⟨hi | hi, hlt⟩ k2
    · exact h5 i hi k2
    · have := (h4 i k2).2
      omega
theorem Two.give (h : Two w B a b n T U) (hB : B ≤ w.heap.size) (x : Int) (h1 : -9223372036854775808 ≤ x) (h2 : x ≤ 9223372036854775807) :
    Calls Try.prog 13 #[.pointer (some ⟨a, 0, none⟩), .int .i64 x] w fun e w' => ∃ (c : Int) (T' : Tk), e = .returned (.int .i64 c) ∧ GiveR T x c T' ∧ Two w' B a b n T' U ∧ Fr (fun i => B ≤ i) w w' := by
  refine (h.on hB (P := fun e T' => ∃ c : Int, e = .returned (.int .i64 c) ∧ GiveR T x c T') fun S hS => (hS.give_r x h1 h2).mono ?_).mono ?_
  · rintro e w' ⟨c, T', rfl, hg, hl⟩
    exact ⟨T', ⟨c, rfl, hg⟩, hl⟩
  · rintro e w' ⟨T', ⟨c, rfl, hg⟩, h3, h4⟩
    exact ⟨c, T', rfl, hg, h3, h4⟩
theorem Two.give2 (h : Two w B a b n T U) (hB : B ≤ w.heap.size) (x : Int) (h1 : -9223372036854775808 ≤ x) (h2 : x ≤ 9223372036854775807) :
    Calls Try.prog 13 #[.pointer (some ⟨b, 0, none⟩), .int .i64 x] w fun e w' => ∃ (c : Int) (U' : Tk), e = .returned (.int .i64 c) ∧ GiveR U x c U' ∧ Two w' B a b n T U' ∧ Fr (fun i => B ≤ i) w w' := by
  refine (h.swap.give hB x h1 h2).mono ?_
  rintro e w' ⟨c, T', rfl, hg, h3, h4⟩
  exact ⟨c, T', rfl, hg, h3.swap, h4⟩
theorem Two.take (h : Two w B a b n T U) (hB : B ≤ w.heap.size) (x : Int) :
    Calls Try.prog 15 #[.pointer (some ⟨a, 0, none⟩), .int .i64 x] w fun e w' => ∃ (r c : Int) (T' : Tk), e = .returned (.tuple #[.int .i64 r, .int .i64 c]) ∧ TakeR n T x r c T' ∧ Two w' B a b n T' U ∧ Fr (fun i => B ≤ i) w w' := by
  refine (h.on hB (P := fun e T' => ∃ r c : Int, e = .returned (.tuple #[.int .i64 r, .int .i64 c]) ∧ TakeR n T x r c T') fun S hS => (hS.take_r x).mono ?_).mono ?_
  · rintro e w' ⟨r, c, T', rfl, hg, hl⟩
    exact ⟨T', ⟨r, c, rfl, hg⟩, hl⟩
  · rintro e w' ⟨T', ⟨r, c, rfl, hg⟩, h3, h4⟩
    exact ⟨r, c, T', rfl, hg, h3, h4⟩
theorem Two.take2 (h : Two w B a b n T U) (hB : B ≤ w.heap.size) (x : Int) :
    Calls Try.prog 15 #[.pointer (some ⟨b, 0, none⟩), .int .i64 x] w fun e w' => ∃ (r c : Int) (U' : Tk), e = .returned (.tuple #[.int .i64 r, .int .i64 c]) ∧ TakeR n U x r c U' ∧ Two w' B a b n T U' ∧ Fr (fun i => B ≤ i) w w' := by
  refine (h.swap.take hB x).mono ?_
  rintro e w' ⟨r, c, T', rfl, hg, h3, h4⟩
  exact ⟨r, c, T', rfl, hg, h3.swap, h4⟩
end

/-- Ints that came in. -/
def IntsIn (w : World) (A : Option Addr) (len : Nat) : Prop :=
  0 < len → ∃ b off, A = some ⟨b, off, none⟩ ∧ b < w.heap.size ∧ ∀ i, i < len → ∃ n : Int, (-9223372036854775808 ≤ n ∧ n ≤ 9223372036854775807) ∧ w.cell? ⟨b, off + i, none⟩ = some (.int .i64 n)
theorem ints_in {w : World} {A : Option Addr} {len cap : Nat} (h : Rd Try.prog w 34 [.slice A len cap]) : IntsIn w A len ∧ len ≤ 9223372036854775807 := by
  obtain ⟨A', len', cap', hc, hlc, hcm, _, hr⟩ := h.slice_ Try.underlying34 (by rw [cells3]; omega)
  simp at hc
  obtain ⟨rfl, rfl, rfl⟩ := hc
  refine ⟨fun hl => ?_, by omega⟩
  obtain ⟨b, off, rfl, hb, hi⟩ := hr hl
  refine ⟨b, off, rfl, hb, fun i hil => ?_⟩
  obtain ⟨cs, hlen, hcell, hrd⟩ := hi i hil
  obtain ⟨n, rfl, hn1, hn2⟩ := hrd.i64_ Try.underlying3
  have := hcell 0 _ rfl
  rw [cells3, Nat.mul_one, Nat.add_zero] at this
  exact ⟨n, ⟨hn1, hn2⟩, this⟩
theorem IntsIn.below {w w' : World} {A : Option Addr} {len : Nat} (h : IntsIn w A len) (hb : Below w.heap.size w w') : IntsIn w' A len := by
  intro hl
  obtain ⟨b, off, hA, hlt, hi⟩ := h hl
  refine ⟨b, off, hA, Nat.lt_of_lt_of_le hlt hb.size, fun i hil => ?_⟩
  obtain ⟨n, h0, c0⟩ := hi i hil
  exact ⟨n, h0, (hb.cell hlt).trans c0⟩
end Go.Proofs.Ytncjhfofmeamdaa
