/- slices.SortFunc at a few paths, by their order. -/
import Derived.Test.YtnklbeigikcfkaaDoorSo
import Derived.Shelf.Small.Bits
import Derived.Shelf.Lay
import Derived.Ground.NamesProg
namespace Go.Proofs.YtnklbeigikcfkaaDoor
open Go.Proofs Go.Shelf Go.RowKit
shelf_lay Lays.n125 Nm 125 at Tryd as Tryd.bitsLen
section
variable {w : World}
set_option maxHeartbeats 3200000 in
set_option maxRecDepth 100000 in
theorem srt_ (g n c : Nat) (l : List Pa) (hok : ∀ x ∈ l, x.ok) (hd : Dst w) (hn : l.length = n) (hn12 : n ≤ 12) (ho : Own w 26 7 (some ⟨g, 0, none⟩) n c (flat l)) (hg : g ≠ 0) :
    Calls Tryd.prog 36 #[.slice (some ⟨g, 0, none⟩) n c, .func (.func 35) #[.agg #[]] #[]] w fun e w' =>
      e = .returned (.tuple #[]) ∧ ∃ d : List Pa, d.Perm l ∧ Upw d ∧ Own w' 26 7 (some ⟨g, 0, none⟩) n c (flat d) ∧ Fr (fun i => i = g) w w' := by
  have hI := ins_ g n c l hok hd hn hn12 ho hg
  have hL := Any.bits_Len Tryd.bitsLen (n : Int) w (by omega) (by omega)
  change Calls Tryd.prog 51 _ _ _ at hL
  generalize Lib.bitLen _ = k at hL
  clear hok hd hn ho hg
  have hP : Calls Tryd.prog 50 #[.slice (some ⟨g, 0, none⟩) n c, .int .i64 0, .int .i64 n, .int .i64 (k : Int), .func (.func 35) #[.agg #[]] #[]] w fun e w' =>
      e = .returned (.tuple #[]) ∧ ∃ d : List Pa, d.Perm l ∧ Upw d ∧ Own w' 26 7 (some ⟨g, 0, none⟩) n c (flat d) ∧ Fr (fun i => i = g) w w' := by
    have HI := Lib.hid hI
    clear hI hL
    have h12 : (n : Int) ≤ 12 := by omega
    go_enter Tryd.func50, Tryd.ntmps50
    go_wp2_with fail
    go_loop [1, 2, 3, 10, 11] (fun a b _ x y => a = .int .i64 0 ∧ b = .int .i64 (n : Int) ∧ x = .bool true ∧ y = .bool true) (fun _ _ _ _ _ => 0)
    case atStart => exact ⟨rfl, rfl, rfl, rfl⟩
    case round =>
      obtain ⟨rfl, rfl, rfl, rfl⟩ := hrel
      go_wp2_with fail
      refine HI.out.mono ?_
      rintro e w3 ⟨rfl, hx⟩
      go_wp2_with fail
      refine bodyPost_ret (results_none rfl _ _ _) rfl ?_
      exact ⟨rfl, hx⟩
  go_enter Tryd.func36, Tryd.ntmps36
  go_wp2_with fail
  refine hL.mono ?_
  rintro e w2 ⟨rfl, rfl⟩
  go_wp2_with fail
  refine hP.mono ?_
  rintro e w3 ⟨rfl, hx⟩
  go_wp2_with fail
  go_end0
  exact ⟨rfl, hx⟩
end
end Go.Proofs.YtnklbeigikcfkaaDoor
