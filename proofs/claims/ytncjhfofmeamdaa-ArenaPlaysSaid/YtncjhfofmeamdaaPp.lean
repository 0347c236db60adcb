/- The arena and the document's, side by side. -/
import Derived.Test.YtncjhfofmeamdaaRtk
namespace Go.Proofs.Ytncjhfofmeamdaa
open Go.RowKit

theorem sorted_keys {L : Tk} (h : L.Pairwise fun p q => p.1 < q.1) : L.Pairwise fun p q => p.1 ≠ q.1 := h.imp fun h => Nat.ne_of_lt h
theorem TOk.of_sm {n : Nat} {T L : Tk} (h : TOk n T) (hs : Sm T L) (hl : L.Pairwise fun p q => p.1 < q.1) : TOk n L :=
  ⟨fun p hp => h.dy p ((hs p).2 hp), ((List.perm_ext_iff_of_nodup (keys_nodup h.keys) (keys_nodup (sorted_keys hl))).2 hs).pairwise h.dis fun h => h.symm⟩
theorem ordAt_sm {T L : Tk} (hs : Sm T L) (hT : T.Pairwise fun p q => p.1 ≠ q.1) (hL : L.Pairwise fun p q => p.1 ≠ q.1) (x : Int) : ordAt T x = ordAt L x := by
  by_cases h : ∃ p, p ∈ T ∧ (p.1 : Int) = x
  · obtain ⟨p, hp, rfl⟩ := h
    rw [ordAt_some hT hp, ordAt_some hL ((hs p).1 hp)]
  · rw [ordAt_none fun p hp e => h ⟨p, hp, e⟩, ordAt_none fun p hp e => h ⟨p, (hs p).2 hp, e⟩]
theorem Sm.trans {T U V : Tk} (h : Sm T U) (k : Sm U V) : Sm T V := fun p => (h p).trans (k p)
theorem without_ok {L : Tk} (hl : L.Pairwise fun p q => p.1 < q.1) {p a o : Nat} (hp : L[p]? = some (a, o)) : Sm (drop L a) (L.take p ++ L.drop (p + 1)) ∧ (L.take p ++ L.drop (p + 1)).Pairwise fun p q => p.1 < q.1 := by
  obtain ⟨hlt, he⟩ := List.getElem?_eq_some_iff.1 hp
  have e : L = L.take p ++ (a, o) :: L.drop (p + 1) := by
    rw [← he, ← List.drop_eq_getElem_cons hlt, List.take_append_drop]
  have hl2 := hl
  rw [e, List.pairwise_append, List.pairwise_cons] at hl2
  obtain ⟨h1, ⟨h2, h3⟩, h4⟩ := hl2
  refine ⟨fun q => ?_, ?_⟩
  · rw [drop_iff]
    conv => lhs; rw [e]
    rw [List.mem_append, List.mem_append, List.mem_cons]
    constructor
    · rintro ⟨h | rfl | h, hn⟩
      · exact .inl h
      · exact absurd rfl hn
      · exact .inr h
    · rintro (h | h)
      · exact ⟨.inl h, Nat.ne_of_lt (h4 q h (a, o) (List.mem_cons_self ..))⟩
      · exact ⟨.inr (.inr h), (Nat.ne_of_lt (h2 q h)).symm⟩
  · rw [List.pairwise_append]
    exact ⟨h1, h3, fun q hq r hr => h4 q hq r (List.mem_cons_of_mem _ hr)⟩

section
variable {w w' : World} {F S : Nat → Prop} {a b n : Nat} {T L : Tk} {K : Nat → Prop}
theorem rgive_r (h : RAr w F b n L) (hl : L.Pairwise fun p q => p.1 < q.1) (hlen : L.length ≤ 65536) (x : Int) :
    Calls Try.prog 14 #[.pointer (some ⟨b, 0, none⟩), .int .i64 x] w fun e w' => ∃ (c : Int) (U L' : Tk), e = .returned (.int .i64 c) ∧ GiveR L x c U ∧ Sm U L' ∧ L'.Pairwise (fun p q => p.1 < q.1) ∧ RArE w F b n L' w' := by
  by_cases hno : ∀ p, p ∈ L → (p.1 : Int) ≠ x
  · refine (rgive_no h hlen x hno).mono ?_
    rintro e w' ⟨rfl, rfl⟩
    exact ⟨91, L, L, rfl, .inl ⟨hno, rfl, rfl⟩, Sm.refl _, hl, RArE.same h (Fr.refl _ _)⟩
  · simp only [Classical.not_forall, ne_eq, Classical.not_not] at hno
    obtain ⟨⟨y, o⟩, hp, rfl⟩ := hno
    obtain ⟨p, hlt, e⟩ := List.getElem_of_mem hp
    have hp2 : L[p]? = some (y, o) := by rw [List.getElem?_eq_getElem hlt, e]
    refine (rgive_ok h hlen hp2 fun j q hj hq => ?_).mono ?_
    · obtain ⟨hj2, e2⟩ := List.getElem?_eq_some_iff.1 hq
      have := List.pairwise_iff_getElem.1 hl j p hj2 hlt hj
      rw [e, e2] at this
      exact Nat.ne_of_lt this
    · rintro e w' ⟨rfl, hE⟩
      have := without_ok hl hp2
      exact ⟨0, _, _, rfl, .inr ⟨y, o, rfl, hp, rfl, rfl⟩, this.1, this.2, hE⟩
theorem RAr.within (h : RAr w F b n L) : RAr w (fun i => F i ∧ i < w.heap.size) b n L := h.mono fun _ h1 h2 => ⟨h2, h1⟩

/-- The two, in blocks of K. -/
def PP (w : World) (K : Nat → Prop) (a b n : Nat) (T L : Tk) : Prop :=
  ∃ S1 S2 : Nat → Prop, Liv w S1 a n T ∧ RAr w S2 b n L ∧ (∀ i, S1 i → K i ∧ i < w.heap.size) ∧ (∀ i, S2 i → K i ∧ i < w.heap.size) ∧ ∀ i, S1 i → ¬ S2 i
theorem PP.l (h : PP w K a b n T L) : ∃ S, Liv w S a n T := by
  obtain ⟨S1, S2, h1, _⟩ := h
  exact ⟨S1, h1⟩
theorem PP.r (h : PP w K a b n T L) : ∃ S, RAr w S b n L := by
  obtain ⟨S1, S2, _, h2, _⟩ := h
  exact ⟨S2, h2⟩
theorem PP.fr0 (h : PP w K a b n T L) (k : Fr (fun _ => False) w w') : PP w' K a b n T L := by
  obtain ⟨S1, S2, h1, h2, h3, h4, h5⟩ := h
  exact ⟨S1, S2, h1.fr0 k, h2.fr0 k, fun i hi => ⟨(h3 i hi).1, Nat.lt_of_lt_of_le (h3 i hi).2 k.size⟩, fun i hi => ⟨(h4 i hi).1, Nat.lt_of_lt_of_le (h4 i hi).2 k.size⟩, h5⟩
theorem PP.mk' {w1 : World} {B : Nat} (h : Liv w (fun i => B ≤ i) a n T) (k : Fr (fun _ => False) w w1) (h' : RAr w1 (fun i => w.heap.size ≤ i) b n L) (hB : B ≤ w.heap.size) : PP w1 (fun i => B ≤ i) a b n T L :=
  ⟨_, _, h.within.fr0 k, h'.within, fun _ hi => ⟨hi.1, Nat.lt_of_lt_of_le hi.2 k.size⟩, fun _ hi => ⟨Nat.le_trans hB hi.1, hi.2⟩, fun _ h1 h2 => by omega⟩
/-- Away from a block that is new. -/
theorem PP.but {B : Nat} (h : PP w (fun i => B ≤ i) a b n T L) (k : Fr (fun _ => False) w w') {g : Nat} (hg : w.heap.size ≤ g) : PP w' (fun i => B ≤ i ∧ i ≠ g) a b n T L := by
  obtain ⟨S1, S2, h1, h2, h3, h4, h5⟩ := h
  exact ⟨S1, S2, h1.fr0 k, h2.fr0 k, fun i hi => ⟨⟨(h3 i hi).1, by have := (h3 i hi).2; omega⟩, Nat.lt_of_lt_of_le (h3 i hi).2 k.size⟩, fun i hi => ⟨⟨(h4 i hi).1, by have := (h4 i hi).2; omega⟩, Nat.lt_of_lt_of_le (h4 i hi).2 k.size⟩, h5⟩
theorem PP.mono {K' : Nat → Prop} (h : PP w K a b n T L) (hK : ∀ i, K i → K' i) : PP w K' a b n T L := by
  obtain ⟨S1, S2, h1, h2, h3, h4, h5⟩ := h
  exact ⟨S1, S2, h1, h2, fun i hi => ⟨hK i (h3 i hi).1, (h3 i hi).2⟩, fun i hi => ⟨hK i (h4 i hi).1, (h4 i hi).2⟩, h5⟩
theorem PP.on1 (h : PP w K a b n T L) (hK : ∀ i, w.heap.size ≤ i → K i) {f : FuncId} {args : Array Value} {P : Ending → Tk → Prop}
    (hc : ∀ S, Liv w S a n T → Calls Try.prog f args w fun e w' => ∃ T', P e T' ∧ LivE w S a n T' w') :
    Calls Try.prog f args w fun e w' => ∃ T', P e T' ∧ PP w' K a b n T' L ∧ Fr K w w' := by
  obtain ⟨S1, S2, h1, h2, h3, h4, h5⟩ := h
  refine (hc _ h1).mono ?_
  rintro e w' ⟨T', hp, hl, hf⟩
  refine ⟨T', hp, ⟨_, S2, hl.within, h2.fr hf fun i k2 k1 => h5 i k1 k2, ?_, ?_, ?_⟩, hf.mono fun i _ hi => (h3 i hi).1⟩
  · rintro i ⟨hi | hi, hlt⟩
    · exact ⟨(h3 i hi).1, hlt⟩
    · exact ⟨hK i hi, hlt⟩
  · exact fun i hi => ⟨(h4 i hi).1, Nat.lt_of_lt_of_le (h4 i hi).2 hf.size⟩
  · rintro i ⟨hi | hi, hlt⟩ k2
    · exact h5 i hi k2
    · have := (h4 i k2).2
      omega
theorem PP.on2 (h : PP w K a b n T L) (hK : ∀ i, w.heap.size ≤ i → K i) {f : FuncId} {args : Array Value} {P : Ending → Tk → Prop}
    (hc : ∀ S, RAr w S b n L → Calls Try.prog f args w fun e w' => ∃ L', P e L' ∧ RArE w S b n L' w') :
    Calls Try.prog f args w fun e w' => ∃ L', P e L' ∧ PP w' K a b n T L' ∧ Fr K w w' := by
  obtain ⟨S1, S2, h1, h2, h3, h4, h5⟩ := h
  refine (hc _ h2).mono ?_
  rintro e w' ⟨L', hp, hl, hf⟩
  refine ⟨L', hp, ⟨S1, _, h1.fr hf h5, hl.within, ?_, ?_, ?_⟩, hf.mono fun i _ hi => (h4 i hi).1⟩
  · exact fun i hi => ⟨(h3 i hi).1, Nat.lt_of_lt_of_le (h3 i hi).2 hf.size⟩
  · rintro i ⟨hi | hi, hlt⟩
    · exact ⟨(h4 i hi).1, hlt⟩
    · exact ⟨hK i hi, hlt⟩
  · rintro i k1 ⟨hi | hi, hlt⟩
    · exact h5 i k1 hi
    · have := (h3 i k1).2
      omega
theorem PP.give1 (h : PP w K a b n T L) (hK : ∀ i, w.heap.size ≤ i → K i) (x : Int) (h1 : -9223372036854775808 ≤ x) (h2 : x ≤ 9223372036854775807) :
    Calls Try.prog 13 #[.pointer (some ⟨a, 0, none⟩), .int .i64 x] w fun e w' => ∃ (c : Int) (T' : Tk), e = .returned (.int .i64 c) ∧ GiveR T x c T' ∧ PP w' K a b n T' L ∧ Fr K w w' := by
  refine (h.on1 hK (P := fun e T' => ∃ c : Int, e = .returned (.int .i64 c) ∧ GiveR T x c T') fun S hS => (hS.give_r x h1 h2).mono ?_).mono ?_
  · rintro e w' ⟨c, T', rfl, hg, hl⟩
    exact ⟨T', ⟨c, rfl, hg⟩, hl⟩
  · rintro e w' ⟨T', ⟨c, rfl, hg⟩, h3, h4⟩
    exact ⟨c, T', rfl, hg, h3, h4⟩
theorem PP.take1 (h : PP w K a b n T L) (hK : ∀ i, w.heap.size ≤ i → K i) (x : Int) :
    Calls Try.prog 15 #[.pointer (some ⟨a, 0, none⟩), .int .i64 x] w fun e w' => ∃ (r c : Int) (T' : Tk), e = .returned (.tuple #[.int .i64 r, .int .i64 c]) ∧ TakeR n T x r c T' ∧ PP w' K a b n T' L ∧ Fr K w w' := by
  refine (h.on1 hK (P := fun e T' => ∃ r c : Int, e = .returned (.tuple #[.int .i64 r, .int .i64 c]) ∧ TakeR n T x r c T') fun S hS => (hS.take_r x).mono ?_).mono ?_
  · rintro e w' ⟨r, c, T', rfl, hg, hl⟩
    exact ⟨T', ⟨r, c, rfl, hg⟩, hl⟩
  · rintro e w' ⟨T', ⟨r, c, rfl, hg⟩, h3, h4⟩
    exact ⟨r, c, T', rfl, hg, h3, h4⟩
theorem PP.give2 (h : PP w K a b n T L) (hK : ∀ i, w.heap.size ≤ i → K i) (hl : L.Pairwise fun p q => p.1 < q.1) (hlen : L.length ≤ 65536) (x : Int) :
    Calls Try.prog 14 #[.pointer (some ⟨b, 0, none⟩), .int .i64 x] w fun e w' => ∃ (c : Int) (U L' : Tk), e = .returned (.int .i64 c) ∧ GiveR L x c U ∧ Sm U L' ∧ L'.Pairwise (fun p q => p.1 < q.1) ∧ PP w' K a b n T L' ∧ Fr K w w' := by
  refine (h.on2 hK (P := fun e L' => ∃ (c : Int) (U : Tk), e = .returned (.int .i64 c) ∧ GiveR L x c U ∧ Sm U L' ∧ L'.Pairwise (fun p q => p.1 < q.1)) fun S hS => (rgive_r hS hl hlen x).mono ?_).mono ?_
  · rintro e w' ⟨c, U, L', rfl, hg, hs, hp, he⟩
    exact ⟨L', ⟨c, U, rfl, hg, hs, hp⟩, he⟩
  · rintro e w' ⟨L', ⟨c, U, rfl, hg, hs, hp⟩, h3, h4⟩
    exact ⟨c, U, L', rfl, hg, hs, hp, h3, h4⟩
theorem PP.take2 (h : PP w K a b n T L) (hK : ∀ i, w.heap.size ≤ i → K i) (hT : TOk n L) (hl : L.Pairwise fun p q => p.1 < q.1) (hlen : L.length ≤ 65536) (hn : n ≤ 16) (x : Int) :
    Calls Try.prog 16 #[.pointer (some ⟨b, 0, none⟩), .int .i64 x] w fun e w' => ∃ (r c : Int) (U L' : Tk), e = .returned (.tuple #[.int .i64 r, .int .i64 c]) ∧ TakeR n L x r c U ∧ Sm U L' ∧ L'.Pairwise (fun p q => p.1 < q.1) ∧ PP w' K a b n T L' ∧ Fr K w w' := by
  refine (h.on2 hK (P := fun e L' => ∃ (r c : Int) (U : Tk), e = .returned (.tuple #[.int .i64 r, .int .i64 c]) ∧ TakeR n L x r c U ∧ Sm U L' ∧ L'.Pairwise (fun p q => p.1 < q.1)) fun S hS => (rtake_any hS hT hl hlen hn x).mono ?_).mono ?_
  · rintro e w' ⟨r, c, U, L', rfl, hg, hs, hp, he⟩
    exact ⟨L', ⟨r, c, U, rfl, hg, hs, hp⟩, he⟩
  · rintro e w' ⟨L', ⟨r, c, U, rfl, hg, hs, hp⟩, h3, h4⟩
    exact ⟨r, c, U, L', rfl, hg, hs, hp, h3, h4⟩
theorem TakeR.bd {n : Nat} {T U : Tk} {x r c : Int} (h : TakeR n T x r c U) (hn : n ≤ 16) : 0 ≤ r ∧ r ≤ 65536 := by
  rcases h with ⟨_, rfl, _⟩ | ⟨o, _, _, ⟨_, rfl, _⟩ | ⟨k, y, hf, rfl, _⟩⟩
  · omega
  · omega
  · have := hf.2.2.2.1.lt
    have := pow16 hn
    omega
end
end Go.Proofs.Ytncjhfofmeamdaa
