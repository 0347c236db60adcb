/- The document's Class and Solicited of any address. -/
import Derived.Test.YtcameghlkplgfaaGreatDoorCs
import Derived.Test.YtcameghlkplgfaaGreatDoorRb
import Derived.Test.YtcameghlkplgfaaGreatDoorO6
namespace Go.Proofs.YtcameghlkplgfaaGreatDoor
open Go.Proofs Go.Shelf Go.RowKit
theorem own_bytes {w : World} {A : Option Addr} {n c : Nat} {bs : List Nat} (h : Own w 5 1 A n c (bs.map u8v)) (hn : 0 < n) : ∃ g, A = some ⟨g, 0, none⟩ ∧ ∀ (i x : Nat), bs[i]? = some x → w.cell? ⟨g, i, none⟩ = some (.int .u8 (x : Int)) := by
  rcases h.2 with ⟨_, h0, _⟩ | ⟨g, cur, e, hg, _, _, _, ht⟩
  · omega
  · refine ⟨g, e, fun i x hi => ?_⟩
    have hb : Blk w g 5 cur := hg
    have h1 : (cur.toList.take (n * 1))[i]? = some (u8v x) := by rw [ht, List.getElem?_map, hi]; rfl
    rw [List.getElem?_take] at h1
    split at h1
    · rw [Array.getElem?_toList] at h1
      exact (hb.cell i).trans h1
    · cases h1
theorem cls_hi (h l : Nat) (hh : h < 18446744073709551616) : clsA ⟨true, h, l⟩ = if h = 0 ∧ l = 0 then 0 else if h = 0 ∧ l = 1 then 1 else if byteA ⟨true, h, l⟩ 0 = 254 ∧ byteA ⟨true, h, l⟩ 1 / 64 = 2 then 2 else if byteA ⟨true, h, l⟩ 0 = 255 then 3 else 5 := by
  unfold clsA byteA validA
  simp
  repeat' split
  all_goals first | rfl | omega
theorem cls_lo (l : Nat) (hl : l < 4294967296) : clsA ⟨false, 0, l⟩ = if l = 0 then 0 else if byteA ⟨false, 0, l⟩ 0 = 127 then 1 else if byteA ⟨false, 0, l⟩ 0 = 169 ∧ byteA ⟨false, 0, l⟩ 1 = 254 then 2 else if l = 4294967295 then 4 else if byteA ⟨false, 0, l⟩ 0 / 16 = 14 then 3 else 5 := by
  unfold clsA byteA validA
  simp [hl]
  repeat' split
  all_goals first | rfl | omega
section
variable {w : World}
end
end Go.Proofs.YtcameghlkplgfaaGreatDoor
