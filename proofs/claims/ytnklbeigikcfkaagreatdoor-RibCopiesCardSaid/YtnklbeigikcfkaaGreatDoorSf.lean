/- slices.SortFunc at a few paths, by their order. -/
import Derived.Test.YtnklbeigikcfkaaGreatDoorSo
import Derived.Shelf.Small.Bits
import Derived.Shelf.Lay
import Derived.Ground.NamesProg
namespace Go.Proofs.YtnklbeigikcfkaaGreatDoor
open Go.Proofs Go.Shelf Go.RowKit
shelf_lay Lays.n125 Nm 125 at Tryz as Tryz.bitsLen
section
variable {w : World}
set_option maxHeartbeats 3200000 in
set_option maxRecDepth 100000 in
theorem srt_ (g n c : Nat) (l : List Pa) (hok : ∀ x ∈ l, x.ok) (hd : Dst w) (hn : l.length = n) (hn12 : n ≤ 12) (ho : Own w 34 7 (some ⟨g, 0, none⟩) n c (flat l)) (hg : g ≠ 0) :
    Calls Tryz.prog 42 #[.slice (some ⟨g, 0, none⟩) n c, .func (.func 41) #[.agg #[]] #[]] w fun e w' =>
      e = .returned (.tuple #[]) ∧ ∃ d : List Pa, d.Perm l ∧ Upw d ∧ Own w' 34 7 (some ⟨g, 0, none⟩) n c (flat d) ∧ Fr (fun i => i = g) w w' := by
  have hI := ins_ g n c l hok hd hn hn12 ho hg
  have hL := Any.bits_Len Tryz.bitsLen (n : Int) w (by omega) (by omega)
  change Calls Tryz.prog 64 _ _ _ at hL
  generalize Lib.bitLen _ = k at hL
  clear hok hd hn ho hg
  have hP : Calls Tryz.prog 63 #[.slice (some ⟨g, 0, none⟩) n c, .int .i64 0, .int .i64 n, .int .i64 (k : Int), .func (.func 41) #[.agg #[]] #[]] w fun e w' =>
      e = .returned (.tuple #[]) ∧ ∃ d : List Pa, d.Perm l ∧ Upw d ∧ Own w' 34 7 (some ⟨g, 0, none⟩) n c (flat d) ∧ Fr (fun i => i = g) w w' := by
    have HI := Lib.hid hI
    clear hI hL
    have h12 : (n : Int) ≤ 12 := by omega
    go_enter Tryz.func63, Tryz.ntmps63
    go_wp2_with fail
    go_loop [1, 2, 3, 10, 11] (fun a b _ x y => a = .int .i64 0 ∧ b = .int .i64 (n : Int) ∧ x = .bool true ∧ y = .bool true) (fun _ _ _ _ _ => 0)
    case atStart => exact ⟨rfl, rfl, rfl, rfl⟩
    case round =>
      obtain ⟨rfl, rfl, rfl, rfl⟩ := hrel
      go_wp2_with fail
      refine HI.out.mono ?_
      rintro e w3 ⟨rfl, hx⟩
      go_wp2_with fail
      refine bodyPost_ret (results_none rfl _ _ _) rfl ?_
      exact ⟨rfl, hx⟩
  go_enter Tryz.func42, Tryz.ntmps42
  go_wp2_with fail
  refine hL.mono ?_
  rintro e w2 ⟨rfl, rfl⟩
  go_wp2_with fail
  refine hP.mono ?_
  rintro e w3 ⟨rfl, hx⟩
  go_wp2_with fail
  go_end0
  exact ⟨rfl, hx⟩
end
end Go.Proofs.YtnklbeigikcfkaaGreatDoor
