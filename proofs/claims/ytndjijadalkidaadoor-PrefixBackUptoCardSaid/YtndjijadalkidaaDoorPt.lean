/- addr.Parse of any text that is not too long, as one function of its bytes. -/
import Derived.Test.YtndjijadalkidaaDoorPs
import Derived.Lib.SplitLaws
namespace Go.Proofs.YtndjijadalkidaaDoor
open Go.Proofs Go.Shelf Go.RowKit
def spl (c : UInt8) (s : ByteArray) : List ByteArray := Lib.splitB ⟨#[c]⟩ 0 (Lib.countB s ⟨#[c]⟩) s
def rowP (s : ByteArray) : Option (List Nat) := if s.size = 0 then some [] else hexs ((spl 58 s).map (·.data.toList))
def bA (l : List UInt8) : ByteArray := ⟨l.toArray⟩
def sixP (s : ByteArray) : Option Ad := sixR (rowP (bA (Lib.cut s.data.toList [58, 58]).1)) (rowP (bA (Lib.cut s.data.toList [58, 58]).2.1)) (Lib.cut s.data.toList [58, 58]).2.2
def parseA (s : ByteArray) : Ad × Int := parseR (fourP ((spl 46 s).map (·.data.toList))) (sixP s)
theorem spl_len (c : UInt8) (s : ByteArray) : (spl c s).length ≤ s.size + 1 := by
  have h1 := Lib.splitB_all ⟨#[c]⟩ (show 1 ≤ (⟨#[c]⟩ : ByteArray).size from Nat.le_refl _) 0 _ s rfl
  have h2 := Lib.countB_le ⟨#[c]⟩ (show 1 ≤ (⟨#[c]⟩ : ByteArray).size from Nat.le_refl _) s.size s (Nat.le_refl _)
  unfold spl
  omega
theorem split_at (c : UInt8) (s : ByteArray) (m : Int) (hs : s.size < 4294967281) : ∀ W : World, W.cell? ⟨0, 0, none⟩ = some (.int .i64 m) → Calls Tryd.prog 65 #[.string s, .string ⟨#[c]⟩] W fun e w' => e = .returned (.slice (some ⟨W.heap.size, 0, none⟩) (spl c s).length (spl c s).length) ∧ w' = W.alloc (.cells ((spl c s).map Value.string).toArray 9) := by
  intro W hW
  have i9 : (Tryd.prog.info? 9).map (fun i => (i.zero, i.size, i.bytes)) = some (some (.string ByteArray.empty), 1, 16) := by kernel_rfl
  have h := Any.strings_Split Tryd.splitL i9 s ⟨#[c]⟩ m W hs hW (Nat.le_refl _)
  have h1 := Lib.splitB_all ⟨#[c]⟩ (show 1 ≤ (⟨#[c]⟩ : ByteArray).size from Nat.le_refl _) 0 _ s rfl
  rw [← h1] at h
  exact h
theorem cut_sizes (l sep : List UInt8) : (Lib.cut l sep).1.length ≤ l.length ∧ (Lib.cut l sep).2.1.length ≤ l.length := by
  unfold Lib.cut
  split
  · exact ⟨by simp; omega, by simp⟩
  · exact ⟨Nat.le_refl _, by simp⟩
theorem bA_size (l : List UInt8) : (bA l).size = l.length := by simp [bA, ByteArray.size]
theorem rowP_lt {s : ByteArray} {x : List Nat} (h : rowP s = some x) : ∀ u ∈ x, u < 65536 := by
  unfold rowP at h
  split at h
  · cases h; intro u hu; cases hu
  · exact hexs_lt _ _ h
theorem rowP_len (s : ByteArray) : ((rowP s).getD []).length ≤ s.size + 1 := by
  unfold rowP
  split
  · simp
  · cases h : hexs ((spl 58 s).map (·.data.toList)) with
    | none => simp
    | some us =>
      have := hexs_len _ _ h
      rw [List.length_map] at this
      have h2 := spl_len 58 s
      simp only [Option.getD_some]
      omega
section
variable {w : World}
theorem row_any (s : ByteArray) (m : Int) (hs : s.size < 4294967281) (hm : Mx m w) (hsy : Sy w) : Calls Tryd.prog 67 #[.string s] w fun e w' => ∃ v, e = .returned (.tuple #[v, .bool (rowP s).isSome]) ∧ Bu w w' v ((rowP s).getD []) := by
  by_cases h0 : s.size = 0
  · have e : rowP s = some [] := by unfold rowP; rw [if_pos h0]
    rw [e]
    obtain rfl := empty_of h0
    exact row_nil
  · have e : rowP s = hexs ((spl 58 s).map (·.data.toList)) := by unfold rowP; rw [if_neg h0]
    rw [e]
    have h2 := spl_len 58 s
    exact row_ s h0 (spl 58 s) m hm hsy (by omega) (split_at 58 s m hs)
theorem cut2 (s : ByteArray) (m : Int) (hs : s.size < 4294967281) (hm : Mx m w) : Calls Tryd.prog 40 #[.string s, .string ⟨#[58, 58]⟩] w fun e w' => e = .returned (.tuple #[.string (bA (Lib.cut s.data.toList [58, 58]).1), .string (bA (Lib.cut s.data.toList [58, 58]).2.1), .bool (Lib.cut s.data.toList [58, 58]).2.2]) ∧ Fr N0 w w' := by
  have e : (⟨#[58, 58]⟩ : ByteArray).data.toList = [58, 58] := rfl
  have h := fun x y b => cut_any s ⟨#[58, 58]⟩ m w hm hs x y b
  rw [e] at h
  exact h _ _ _ rfl rfl rfl
set_option maxHeartbeats 1600000 in
set_option maxRecDepth 100000 in
theorem parse_any (s : ByteArray) (m : Int) (hs : s.size < 4294967281) (hm : Mx m w) (hsy : Sy w) : Calls Tryd.prog 41 #[.string s] w fun e w' => e = .returned (.tuple #[adV (parseA s).1, .int .i64 (parseA s).2]) ∧ Fr N0 w w' := by
  have h2 := spl_len 46 s
  have hlen : s.data.toList.length = s.size := Lib.size_eq s
  obtain ⟨c1, c2⟩ := cut_sizes s.data.toList [58, 58]
  have hcut := fun (V : World) (hV : Mx m V) => cut2 (w := V) s m hs hV
  have h6 : sixP s = sixR (rowP (bA (Lib.cut s.data.toList [58, 58]).1)) (rowP (bA (Lib.cut s.data.toList [58, 58]).2.1)) (Lib.cut s.data.toList [58, 58]).2.2 := rfl
  unfold parseA
  rw [h6]
  generalize Lib.cut s.data.toList [58, 58] = c at *
  obtain ⟨x, y, b⟩ := c
  simp only at c1 c2 hcut ⊢
  have r1 := rowP_len (bA x)
  have r2 := rowP_len (bA y)
  have z1 := bA_size x
  have z2 := bA_size y
  have l1 : ∀ u, rowP (bA x) = some u → ∀ v ∈ u, v < 65536 := fun u h => rowP_lt h
  have l2 : ∀ u, rowP (bA y) = some u → ∀ v ∈ u, v < 65536 := fun u h => rowP_lt h
  have q1 := fun (V : World) (hV : Mx m V) (hT : Sy V) => row_any (w := V) (bA x) m (by omega) hV hT
  have q2 := fun (V : World) (hV : Mx m V) (hT : Sy V) => row_any (w := V) (bA y) m (by omega) hV hT
  generalize rowP (bA x) = X at *
  generalize rowP (bA y) = Y at *
  generalize bA x = bx at *
  generalize bA y = bY at *
  clear h6
  refine parse_ s (fourP ((spl 46 s).map (·.data.toList))) (sixR X Y b) m hm hsy (fun W hW hS => four_ s (spl 46 s) m hW hS (by omega) (split_at 46 s m hs)) (fun W hW hS => ?_)
  exact six_ s bx bY b X Y m hW hS l1 l2 (by omega) (by omega) (fun V hV => hcut V hV) q1 q2
end
end Go.Proofs.YtndjijadalkidaaDoor
