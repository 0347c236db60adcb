/- A region that draws its order, whose operations only read what nobody writes, and whose callees may make memory: walked once, in the order of the text (the kit's lexical walk at a class of worlds of my own: all those that differ from one by new blocks alone). -/
import Derived.Test.YtnklbeigikcfkaaGreatDoorVa
import Derived.BigQuiet
namespace Go.Proofs.YtnklbeigikcfkaaGreatDoor
open Go.RowKit
/-- A world that differs from w by new blocks alone. -/
def Fam (w : World) : Type := { W : World // Fr N0 w W }
def Fam.w {w : World} (x : Fam w) : World := x.1
theorem Fam.fr {w : World} (x : Fam w) : Fr N0 w x.w := x.2
instance famSome (w : World) : Nonempty (Fam w) := ⟨⟨w, Fr.refl _ _⟩⟩
theorem fam_call {P : Program} {f : FuncId} {args : Array Value} {w : World} {x : Fam w} {v : Value} (h : Calls P f args x.w fun e W => e = .returned v ∧ Fr N0 x.w W) :
    Calls P f args x.w fun e W => e = .returned v ∧ ∃ y : Fam w, W = y.w :=
  h.mono fun _ W ⟨he, hf⟩ => ⟨he, ⟨W, x.fr.trans hf⟩, rfl⟩
theorem fam_same {P : Program} {f : FuncId} {args : Array Value} {w : World} {x : Fam w} {v : Value} (h : Calls P f args x.w fun e W => e = .returned v ∧ x.w = W) :
    Calls P f args x.w fun e W => e = .returned v ∧ ∃ y : Fam w, W = y.w :=
  h.mono fun _ _ ⟨he, hf⟩ => ⟨he, x, hf.symm⟩
theorem wp_region_fam {P : Program} {id : Nat} {Q : Exit → Act → World → Prop} {a : Act} {w : World} {l : List Oper} (hm : P.follows .mixedOrders = true) (hB : Region.lexB .any l.toArray = true)
    (h : wpQuiet P l.toArray (fun w' => ∃ x : Fam w, w' = x.w) (fun a' => ∀ w', (∃ x : Fam w, w' = x.w) → Q .normal a' w') l a) : (Code.region id l.toArray true).wp P Q a w :=
  wp_region_quiet (C := fun w' => ∃ x : Fam w, w' = x.w) hm hB ⟨⟨w.drew, (Fr.refl _ _).drew⟩, rfl⟩ (by simpa using h)
theorem Blk.c1 {w : World} {g : Nat} {t : TypeId} {a : Value} (k : Blk w g t #[a]) : w.cell? ⟨g, 0, none⟩ = some a := k.cell 0
theorem Blk.c2 {w : World} {g : Nat} {t : TypeId} {a b : Value} (k : Blk w g t #[a, b]) : w.cell? ⟨g, 0, none⟩ = some a ∧ w.cell? ⟨g, 1, none⟩ = some b := ⟨k.cell 0, k.cell 1⟩
theorem Blk.c3 {w : World} {g : Nat} {t : TypeId} {a b c : Value} (k : Blk w g t #[a, b, c]) : w.cell? ⟨g, 0, none⟩ = some a ∧ w.cell? ⟨g, 1, none⟩ = some b ∧ w.cell? ⟨g, 2, none⟩ = some c := ⟨k.cell 0, k.cell 1, k.cell 2⟩
theorem Blk.c4 {w : World} {g : Nat} {t : TypeId} {a b c d : Value} (k : Blk w g t #[a, b, c, d]) : w.cell? ⟨g, 0, none⟩ = some a ∧ w.cell? ⟨g, 1, none⟩ = some b ∧ w.cell? ⟨g, 2, none⟩ = some c ∧ w.cell? ⟨g, 3, none⟩ = some d := ⟨k.cell 0, k.cell 1, k.cell 2, k.cell 3⟩
theorem Blk.alloc3 (w : World) (A B : Obj) (t : TypeId) (cs : Array Value) : Blk (((w.alloc A).alloc B).alloc (.cells cs t)) (w.heap.size + 2) t cs := by
  have h := heap_alloc_new ((w.alloc A).alloc B) (.cells cs t)
  have e : ((w.alloc A).alloc B).heap.size = w.heap.size + 2 := by simp
  rw [e] at h
  exact h
theorem Blk.alloc4 (w : World) (A B C : Obj) (t : TypeId) (cs : Array Value) : Blk ((((w.alloc A).alloc B).alloc C).alloc (.cells cs t)) (w.heap.size + 3) t cs := by
  have h := heap_alloc_new (((w.alloc A).alloc B).alloc C) (.cells cs t)
  have e : (((w.alloc A).alloc B).alloc C).heap.size = w.heap.size + 3 := by simp
  rw [e] at h
  exact h
end Go.Proofs.YtnklbeigikcfkaaGreatDoor
