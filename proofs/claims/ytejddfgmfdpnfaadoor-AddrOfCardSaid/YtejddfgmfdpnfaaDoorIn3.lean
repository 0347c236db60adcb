/- What the listed variables hold, for texts of six: the table of ten's powers, de Bruijn's table, the error for syntax. -/
import Derived.Test.YtejddfgmfdpnfaaDoorIn
import Derived.Test.YtejddfgmfdpnfaaDoorP6
import Derived.Test.YtejddfgmfdpnfaaDoorPt
namespace Go.Proofs.YtejddfgmfdpnfaaDoor
open Go.Proofs Go.Shelf Go.RowKit
def dbTab : List Int := [0, 1, 56, 2, 57, 49, 28, 3, 61, 58, 42, 50, 38, 29, 17, 4, 62, 47, 59, 36, 45, 43, 51, 22, 53, 39, 33, 30, 24, 18, 12, 5, 63, 55, 48, 27, 60, 41, 37, 16, 46, 35, 44, 21, 52, 32, 23, 11, 54, 26, 40, 15, 34, 20, 31, 10, 25, 14, 19, 9, 13, 8, 7, 6]
theorem d4_of {W : World} {l : List (String × DataW Unit)} (hl : l.filter (fun x => x.1 == "math/bits.deBruijn64tab") = [("math/bits.deBruijn64tab", Lib.tabData .u8 dbTab)]) (h : laidMetH Tryd.prog l W) : D4 W := by
  have h2 := h.filter fun x => x.1 == "math/bits.deBruijn64tab"
  rw [hl, MakeChecks.laidMetH_plain _ _ _ (by rfl)] at h2
  have h3 := Lib.tabIs_of_head (g := 5) (t := 123) (n := 64) (by kernel_rfl) (by kernel_rfl) (by kernel_rfl) Tryd.underlying5 (by kernel_rfl) (by kernel_rfl) h2
  exact h3.cell (by kernel_rfl) 15 (by decide)
set_option maxRecDepth 100000 in
theorem sy_of {W : World} {l : List (String × DataW Unit)} {d : DataW Unit} (hl : l.filter (fun x => x.1 == "strconv.ErrSyntax") = [("strconv.ErrSyntax", d)]) (hh : d.handleName? = none) (h : laidMetH Tryd.prog l W) : Sy W := by
  have h2 := h.filter fun x => x.1 == "strconv.ErrSyntax"
  rw [hl, MakeChecks.laidMetH_plain _ _ _ (by simp [hh])] at h2
  obtain ⟨ps, ⟨g, t, cs, fuel, p, q, hg, ht, hvar, hd, _, _⟩, _⟩ := h2
  have hg' : Tryd.prog.globalNamed "strconv.ErrSyntax" = some 2 := by kernel_rfl
  obtain rfl := Option.some.inj (hg'.symm.trans hg)
  have ht' : (Tryd.prog.globals[2]?).map (·.type) = some 80 := by kernel_rfl
  obtain rfl := Option.some.inj (ht'.symm.trans ht)
  have hx : ∃ x, cs.toList = [x] ∧ (x = .nilIface ∨ ∃ u v, x = .iface u v) := by
    cases fuel with
    | zero => simp [DataW.trod] at hd
    | succ n =>
      unfold DataW.trod at hd
      rw [Tryd.underlying80] at hd
      generalize cs.toList = L at *
      cases L with
      | nil => cases hd
      | cons x r =>
        cases r with
        | nil => cases x <;> first | exact ⟨_, rfl, .inl rfl⟩ | exact ⟨_, rfl, .inr ⟨_, _, rfl⟩⟩ | cases hd
        | cons y r => cases x <;> cases hd
  obtain ⟨x, h1, h3⟩ := hx
  have hc := World.var?_cell hg' hvar 0
  have e : cs[0]? = some x := by rw [← Array.getElem?_toList, h1]; rfl
  exact ⟨x, by simpa [e] using hc, h3⟩
theorem f3_of {W : World} {l : List (String × DataW Unit)} {d : DataW Unit} (h1 : l.filter (fun x => x.1 == "internal/strconv.uint64pow10") = [("internal/strconv.uint64pow10", Lib.tabData .u64 Lib.pow10Tab)])
    (h2 : l.filter (fun x => x.1 == "math/bits.deBruijn64tab") = [("math/bits.deBruijn64tab", Lib.tabData .u8 dbTab)]) (h3 : l.filter (fun x => x.1 == "strconv.ErrSyntax") = [("strconv.ErrSyntax", d)]) (hh : d.handleName? = none) (h : laidMetH Tryd.prog l W) : T10 W ∧ D4 W ∧ Sy W :=
  ⟨t10_of h1 h, d4_of h2 h, sy_of h3 hh h⟩
end Go.Proofs.YtejddfgmfdpnfaaDoor
