/- New and Take, at the level of what is taken. -/
import Derived.Test.YtncjhfofmeamdaaLv2
import Derived.Test.YtncjhfofmeamdaaTke
namespace Go.Proofs.Ytncjhfofmeamdaa
open Go.RowKit

theorem free_new (n : Nat) : FreeIs n [] (upd (fun _ => []) n [0]) := by
  intro j hj
  by_cases e : j = n
  · subst e
    rw [upd_same]
    refine ⟨by simp, fun x => ⟨fun h => ?_, fun h => ?_⟩⟩
    · obtain rfl : x = 0 := by simpa using h
      exact ⟨Nat.le_refl _, Dy.zero _, by omega, nofun, .inl rfl⟩
    · obtain ⟨_, _, h3, _⟩ := h
      have : x = 0 := by omega
      simp [this]
  · rw [upd_other _ _ e]
    refine ⟨List.Pairwise.nil, fun x => ⟨fun h => (by cases h), fun h => ?_⟩⟩
    rcases h.2.2.2.2 with h1 | h1
    · exact absurd h1 e
    · exact absurd (fun p hp => by cases hp) h1
theorem sum_new (n : Nat) : sumF (upd (fun _ => []) n [0]) (n + 1) + sizes [] = 2 ^ n := by
  have h0 : ∀ k, sumF (fun _ => []) k = 0 := fun k => by
    induction k with
    | zero => rfl
    | succ k ih => unfold sumF; rw [ih]; simp
  have h1 := sumF_upd (fun _ => []) n [0] (n + 1) (by omega)
  rw [h0] at h1
  simp only [List.length_nil, List.length_cons, Nat.zero_mul, Nat.zero_add, Nat.one_mul, Nat.add_zero] at h1
  unfold sizes
  simpa using h1
theorem new_liv (w : World) (n : Nat) (hn : n ≤ 16) : Calls Try.prog 9 #[.int .i64 (n : Int)] w fun e w' =>
    e = .returned (.tuple #[.pointer (some ⟨w.heap.size + 2, 0, none⟩), .int .i64 0]) ∧ Liv w' (fun i => w.heap.size ≤ i) (w.heap.size + 2) n [] ∧ Fr (fun _ => False) w w' := by
  refine (new_ok w n hn).mono ?_
  rintro e w' ⟨rfl, h1, h2⟩
  refine ⟨rfl, ⟨hn, ⟨fun p hp => (by cases hp), List.Pairwise.nil⟩, _, _, _, _, _, h1, free_new n, sum_new n, ?_⟩, h2⟩
  rintro i (rfl | rfl | rfl | ⟨j, o, hj, e⟩)
  · omega
  · exact Nat.le_refl _
  · omega
  · by_cases ej : j = n
    · subst ej
      rw [upd_same, Option.some.injEq, Addr.mk.injEq] at e
      omega
    · rw [upd_other _ _ ej] at e; cases e
/-- Nothing of the order o or above is free. -/
def NoFit (n : Nat) (T : List (Nat × Nat)) (o : Nat) : Prop := ∀ j, o ≤ j → j ≤ n → ∀ x, ¬ Frb n T j x
/-- The first block of the least order that will do. -/
def Fit (n : Nat) (T : List (Nat × Nat)) (o k a : Nat) : Prop := o ≤ k ∧ k ≤ n ∧ (∀ j, o ≤ j → j < k → ∀ x, ¬ Frb n T j x) ∧ Frb n T k a ∧ ∀ x, Frb n T k x → a ≤ x
section
variable {w : World} {S : Nat → Prop} {b n : Nat} {T : List (Nat × Nat)}
theorem nil_of {f : Nat → List Nat} (hf : FreeIs n T f) {j : Nat} (hj : j ≤ n) (h : ∀ x, ¬ Frb n T j x) : f j = [] :=
  List.eq_nil_iff_forall_not_mem.2 fun x hx => h x (((hf j hj).2 x).1 hx)
theorem Liv.take_arg (h : Liv w S b n T) (o : Int) (ho : o < 0 ∨ (n : Int) < o) : Calls Try.prog 15 #[.pointer (some ⟨b, 0, none⟩), .int .i64 o] w fun e w' => e = .returned (.tuple #[.int .i64 0, .int .i64 1]) ∧ w = w' := by
  obtain ⟨_, _, m, fb, A, c, f, h3, _⟩ := h
  exact Go.Proofs.Ytncjhfofmeamdaa.take_arg h3 o ho
theorem Liv.take_no (h : Liv w S b n T) (o : Nat) (ho : o ≤ n) (hno : NoFit n T o) : Calls Try.prog 15 #[.pointer (some ⟨b, 0, none⟩), .int .i64 (o : Int)] w fun e w' => e = .returned (.tuple #[.int .i64 0, .int .i64 90]) ∧ w = w' := by
  obtain ⟨h1, _, m, fb, A, c, f, h3, h4, _⟩ := h
  exact take_full h3 h1 o ho fun j hj hjn => nil_of h4 hjn (hno j hj hjn)
theorem Liv.take (h : Liv w S b n T) {o k a : Nat} (hfit : Fit n T o k a) : Calls Try.prog 15 #[.pointer (some ⟨b, 0, none⟩), .int .i64 (o : Int)] w fun e w' => e = .returned (.tuple #[.int .i64 (a : Int), .int .i64 0]) ∧ LivE w S b n (T ++ [(a, o)]) w' := by
  obtain ⟨h1, h2, m, fb, A, c, f, h3, h4, h5, h6⟩ := h
  obtain ⟨g1, g2, g3, g4, g5⟩ := hfit
  have hm : a ∈ f k := ((h4 k g2).2 a).2 g4
  obtain ⟨r, hr⟩ : ∃ r, f k = a :: r := by
    have hs := (h4 k g2).1
    have hle : ∀ x, x ∈ f k → a ≤ x := fun x hx => g5 x (((h4 k g2).2 x).1 hx)
    cases e : f k with
    | nil => rw [e] at hm; cases hm
    | cons y r =>
      rw [e] at hm hs hle
      rcases List.mem_cons.1 hm with rfl | h7
      · exact ⟨r, rfl⟩
      · have h8 := (List.pairwise_cons.1 hs).1 a h7
        have h9 := hle y (List.mem_cons_self ..)
        omega
  have he : ∀ j, o ≤ j → j < k → f j = [] := fun j hj hjk => nil_of h4 (by omega) (g3 j hj hjk)
  have hnew : ∀ p, p ∈ T → p.1 ≠ a := fun p hp e => by
    have := g4.2.2.2.1 p hp
    have := p2 p.2
    have := p2 k
    unfold Dis at *; omega
  refine (take_ok h3 h1 o k g1 g2 he hr (Nat.le_trans g4.2.2.1 (pow16 h1)) hnew).mono ?_
  rintro e w' ⟨rfl, A', c', k1, k2, k3⟩
  have h7 := take_sum g1 g2 he hr
  have h8 : sizes (T ++ [(a, o)]) = sizes T + 2 ^ o := by simp [sizes]
  have hfree := take_free h4 g1 g2 he hr
  have h9 := p2le g1
  refine ⟨rfl, ⟨h1, ⟨fun p hp => ?_, ?_⟩, m, fb, A', c', _, k1, hfree.1, by omega, fun i hi => (k3 i hi).imp_left (h6 i)⟩, k2.mono fun i _ hi => h6 i hi⟩
  · rcases List.mem_append.1 hp with h10 | h10
    · exact h2.dy p h10
    · obtain rfl : p = (a, o) := by simpa using h10
      exact ⟨g4.2.1.le g1, by omega, by have := g4.2.2.1; show a + 2 ^ o ≤ 2 ^ n; omega⟩
  · rw [List.pairwise_append]
    refine ⟨h2.dis, by simp, fun p hp q hq => ?_⟩
    obtain rfl : q = (a, o) := by simpa using hq
    have h10 := g4.2.2.2.1 p hp
    unfold Dis at *
    show p.1 + 2 ^ p.2 ≤ a ∨ a + 2 ^ o ≤ p.1
    omega
end
end Go.Proofs.Ytncjhfofmeamdaa
