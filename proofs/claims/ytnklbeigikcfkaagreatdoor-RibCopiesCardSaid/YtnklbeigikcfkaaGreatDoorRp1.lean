/- Paths and their order; rows of paths to prefixes: plain laws. -/
import Derived.Test.YtnklbeigikcfkaaGreatDoorPr
namespace Go.Proofs.YtnklbeigikcfkaaGreatDoor
/-- A path. -/
structure Pa where
  proto : Int
  metric : Int
  via : Ad
  port : Int
  away : Bool
deriving DecidableEq
def I64 (x : Int) : Prop := -9223372036854775808 ≤ x ∧ x ≤ 9223372036854775807
structure Pa.ok (x : Pa) : Prop where
  pr : I64 x.proto
  me : I64 x.metric
  via : x.via.ok
  po : I64 x.port
def distP (p : Int) : Int := if p = 0 then 0 else if p = 1 then 1 else if p = 2 then 20 else if p = 3 then 110 else if p = 4 then 120 else 255
def b2i (b : Bool) : Int := if b = true then 1 else 0
/-- One row of numbers ahead of another one. -/
def lexB : List Int → List Int → Bool
  | a :: r, b :: t => if a = b then lexB r t else decide (a < b)
  | _, _ => false
theorem lexB_irrefl : ∀ l, lexB l l = false
  | [] => rfl
  | a :: r => by rw [lexB, if_pos rfl]; exact lexB_irrefl r
theorem lexB_trans : ∀ {x y z : List Int}, lexB x y = true → lexB y z = true → lexB x z = true
  | [], _, _, h, _ => by simp [lexB] at h
  | _ :: _, [], _, h, _ => by simp [lexB] at h
  | _ :: _, _ :: _, [], _, k => by simp [lexB] at k
  | a :: x, b :: y, c :: z, h, k => by
    rw [lexB] at h k ⊢
    by_cases e1 : a = b
    · subst e1
      rw [if_pos rfl] at h
      by_cases e2 : a = c
      · rw [if_pos e2] at k ⊢
        exact lexB_trans h k
      · rw [if_neg e2] at k ⊢
        exact k
    · rw [if_neg e1] at h
      by_cases e2 : b = c
      · subst e2
        rw [if_neg e1]
        exact h
      · rw [if_neg e2] at k
        simp only [decide_eq_true_eq] at h k
        rw [if_neg (by omega)]
        simp only [decide_eq_true_eq]
        omega
theorem lexB_total : ∀ {x y : List Int}, x.length = y.length → x ≠ y → lexB x y = true ∨ lexB y x = true
  | [], [], _, h => absurd rfl h
  | [], _ :: _, h, _ => by simp at h
  | _ :: _, [], h, _ => by simp at h
  | a :: x, b :: y, hl, h => by
    rw [lexB, lexB]
    by_cases e : a = b
    · subst e
      rw [if_pos rfl, if_pos rfl]
      exact lexB_total (by simpa using hl) (fun k => h (by rw [k]))
    · rw [if_neg e, if_neg (fun k => e k.symm)]
      simp only [decide_eq_true_eq]
      omega
theorem lexB_asymm {x y : List Int} (h : lexB x y = true) : lexB y x = false := by
  cases k : lexB y x with
  | false => rfl
  | true => have := lexB_trans h k; rw [lexB_irrefl] at this; cases this
def keyP (x : Pa) : List Int := [distP x.proto, x.metric, x.port, b2i x.via.six, x.via.hi, x.via.lo, b2i x.away]
/-- One path is better than another one. -/
def betP (x y : Pa) : Bool := lexB (keyP x) (keyP y)
theorem betP_irrefl (x : Pa) : betP x x = false := lexB_irrefl _
theorem betP_trans {x y z : Pa} (h : betP x y = true) (k : betP y z = true) : betP x z = true := lexB_trans h k
theorem betP_asymm {x y : Pa} (h : betP x y = true) : betP y x = false := lexB_asymm h
theorem key_eq {x y : Pa} (h : keyP x = keyP y) : distP x.proto = distP y.proto ∧ x.metric = y.metric ∧ x.port = y.port ∧ x.via = y.via ∧ x.away = y.away := by
  obtain ⟨p, m, ⟨s, h1, l⟩, o, a⟩ := x
  obtain ⟨p', m', ⟨s', h1', l'⟩, o', a'⟩ := y
  simp only [keyP, List.cons.injEq, and_true] at h
  obtain ⟨e1, e2, e3, e4, e5, e6, e7⟩ := h
  refine ⟨e1, e2, e3, ?_, ?_⟩
  · have : s = s' := by
      revert e4
      cases s <;> cases s' <;> simp [b2i]
    subst this
    rw [Ad.mk.injEq]
    exact ⟨rfl, by omega, by omega⟩
  · revert e7
    simp only
    cases a <;> cases a' <;> simp [b2i]
theorem betP_total {x y : Pa} (hx : 0 ≤ x.proto ∧ x.proto ≤ 4) (hy : 0 ≤ y.proto ∧ y.proto ≤ 4) (h : x ≠ y) : betP x y = true ∨ betP y x = true := by
  refine lexB_total rfl fun k => h ?_
  obtain ⟨e1, e2, e3, e4, e5⟩ := key_eq k
  have : x.proto = y.proto := by
    unfold distP at e1
    have hx' : x.proto = 0 ∨ x.proto = 1 ∨ x.proto = 2 ∨ x.proto = 3 ∨ x.proto = 4 := by omega
    have hy' : y.proto = 0 ∨ y.proto = 1 ∨ y.proto = 2 ∨ y.proto = 3 ∨ y.proto = 4 := by omega
    rcases hx' with h1 | h1 | h1 | h1 | h1 <;> rcases hy' with h2 | h2 | h2 | h2 | h2 <;> rw [h1, h2] at e1 ⊢ <;> simp at e1
  obtain ⟨p, m, v, o, a⟩ := x
  obtain ⟨p', m', v', o', a'⟩ := y
  simp only at *
  subst this e2 e3 e4 e5
  rfl
/-- The same way. -/
def sameW (x y : Pa) : Bool := decide (x.proto = y.proto) && decide (x.via = y.via) && decide (x.port = y.port) && decide (x.away = y.away)
/-- An address may be a neighbour to a prefix; c is its class. -/
def viaP (cls : Ad → Int) (p : Px) (a : Ad) (port : Int) : Bool := decide (a.six = p.ad.six) && (decide (cls a = 5) || (decide (cls a = 2) && decide (0 < port)))
/-- A path may be one to a prefix. -/
def mayP (cls : Ad → Int) (p : Px) (x : Pa) : Bool :=
  if validP p = false ∨ x.proto < 0 ∨ 4 < x.proto ∨ x.metric < 0 ∨ 65535 < x.metric then false
  else if x.away = true then decide (x.port = 0) && decide (x.via = ⟨false, 0, 0⟩)
  else if x.port = 0 then viaP cls p x.via 0
  else decide (1 ≤ x.port) && decide (x.port ≤ 8) && (decide (x.via = ⟨false, 0, 0⟩) || viaP cls p x.via x.port)
/-- A path to a prefix; a row of them. -/
abbrev Td := Px × Pa
def aheadT (u t : Td) : Bool := ltP u.1 t.1 || (decide (u.1 = t.1) && betP u.2 t.2)
def insT (t : Td) : List Td → List Td
  | [] => [t]
  | u :: r => if aheadT u t = true then u :: insT t r else t :: u :: r
def pathsT (L : List Td) (p : Px) : List Pa := (L.filter fun u => decide (u.1 = p)).map (·.2)
def prefsT : List Td → List Px
  | [] => []
  | [u] => [u.1]
  | u :: v :: r => if u.1 = v.1 then prefsT (v :: r) else u.1 :: prefsT (v :: r)
def wayT (p : Px) (x : Pa) (u : Td) : Bool := decide (u.1 = p) && sameW x u.2
/-- What the document does with a path. -/
def putT (cls : Ad → Int) (L : List Td) (p : Px) (x : Pa) : List Td × Int :=
  if mayP cls p x = false then (L, 140)
  else if L.any (wayT p x) = true then (insT (p, x) (L.filter fun u => !wayT p x u), 0)
  else if 4 ≤ (pathsT L p).length ∨ (pathsT L p = [] ∧ 90 ≤ (prefsT L).length) then (L, 141)
  else (insT (p, x) L, 0)
def dropT (L : List Td) (p : Px) (x : Pa) : List Td × Int := if L.any (wayT p x) = true then (L.filter fun u => !wayT p x u, 0) else (L, 142)
def flushT (L : List Td) (proto : Int) : List Td := L.filter fun u => decide (u.2.proto ≠ proto)
/-- A right row. -/
structure RowT (cls : Ad → Int) (L : List Td) : Prop where
  up : L.Pairwise fun u v => aheadT u v = true
  may : ∀ u ∈ L, mayP cls u.1 u.2 = true
  ok : ∀ u ∈ L, u.1.ad.ok ∧ u.2.ok
  one : L.Pairwise fun u v => ¬ (u.1 = v.1 ∧ sameW u.2 v.2 = true)
  four : ∀ p, (pathsT L p).length ≤ 4
  many : (prefsT L).length ≤ 90
end Go.Proofs.YtnklbeigikcfkaaGreatDoor
