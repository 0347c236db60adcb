/- The arguments of the chapter's statements, opened; what the listed variables hold. -/
import Derived.Test.YtejddfgmfdpnfaaDoorPi
import Derived.Test.YtejddfgmfdpnfaaDoorOpen
import Derived.Shelf.LaysM
import Derived.Lib.LaidTab
import Derived.LaidSub
import Derived.MakeChecks
namespace Go.Proofs.YtejddfgmfdpnfaaDoor
open Go.Proofs Go.Shelf Go.RowKit
shelf_lay LaysM.n145 Nm 145 at Tryd as Tryd.cutM
set_option maxRecDepth 100000 in
theorem rd_ad {W : World} {cs : List Value} (h : Rd Tryd.prog W 25 cs) : ∃ a : Ad, cs = [.bool a.six, .int .u64 (a.hi : Int), .int .u64 (a.lo : Int)] ∧ a.ok := by
  obtain ⟨hl, hf⟩ := Rd.struct_ Tryd.underlying25 h
  rw [show Tryd.prog.cellsOf 25 = 3 by kernel_rfl] at hl
  match cs, hl with
  | [x, y, z], _ =>
    have h0 : Rd Tryd.prog W 4 (([x, y, z].drop 0).take (Tryd.prog.cellsOf 4)) := hf 0 _ rfl
    have h1 : Rd Tryd.prog W 23 (([x, y, z].drop 1).take (Tryd.prog.cellsOf 23)) := hf 1 _ rfl
    have h2 : Rd Tryd.prog W 23 (([x, y, z].drop 2).take (Tryd.prog.cellsOf 23)) := hf 2 _ rfl
    rw [show Tryd.prog.cellsOf 4 = 1 by kernel_rfl] at h0
    rw [show Tryd.prog.cellsOf 23 = 1 by kernel_rfl] at h1 h2
    obtain ⟨s, e0⟩ := Rd.bool_ Tryd.underlying4 h0
    obtain ⟨hi, e1, b1⟩ := Rd.u64_ Tryd.underlying23 h1
    obtain ⟨lo, e2, b2⟩ := Rd.u64_ Tryd.underlying23 h2
    simp at e0 e1 e2
    subst e0 e1 e2
    exact ⟨⟨s, hi, lo⟩, rfl, b1, b2⟩
theorem px_arr {A : Array Value} {p : Px} (h : A.toList = [.bool p.ad.six, .int .u64 (p.ad.hi : Int), .int .u64 (p.ad.lo : Int), .int .i64 p.bits]) : A = #[.bool p.ad.six, .int .u64 (p.ad.hi : Int), .int .u64 (p.ad.lo : Int), .int .i64 p.bits] := by
  rw [← Array.toArray_toList (xs := A), h]
theorem ad_arr {A : Array Value} {a : Ad} (h : A.toList = [.bool a.six, .int .u64 (a.hi : Int), .int .u64 (a.lo : Int)]) : A = #[.bool a.six, .int .u64 (a.hi : Int), .int .u64 (a.lo : Int)] := by
  rw [← Array.toArray_toList (xs := A), h]
theorem mx_of {W : World} (hS : W.ShapedOpen Tryd.prog) : ∃ m, Mx m W := Tryd.cutM.s1_3 W hS
/-- What the table's entry of a list of variables says. -/
theorem t10_of {W : World} {l : List (String × DataW Unit)} (hl : l.filter (fun x => x.1 == "internal/strconv.uint64pow10") = [("internal/strconv.uint64pow10", Lib.tabData .u64 Lib.pow10Tab)]) (h : laidMetH Tryd.prog l W) : T10 W := by
  have h2 := h.filter fun x => x.1 == "internal/strconv.uint64pow10"
  rw [hl, MakeChecks.laidMetH_plain _ _ _ (by rfl)] at h2
  exact Lib.tabIs_of_head (g := 0) (t := 99) (n := 20) (by kernel_rfl) (by kernel_rfl) (by kernel_rfl) Tryd.underlying23 (by kernel_rfl) (by kernel_rfl) h2
end Go.Proofs.YtejddfgmfdpnfaaDoor
