/- What the library's numbers want of the world, out of the row's condition and the world's shape. -/
import Derived.Test.YtbmaecdlkchkeaaGreatDoorRows
import Derived.Test.YtbmaecdlkchkeaaGreatDoorI6
import Derived.Lib.LaidTab
import Derived.LaidLaws
import Derived.Shelf.Vars
namespace Go.Proofs.YtbmaecdlkchkeaaGreatDoor
open Go.ChangeShapes Go.WideShapes Go.RowKit
set_option linter.unusedVariables false
abbrev laidList : List (String × DataW Unit) := [("math/bits.deBruijn32tab", Rows.laid_math_bits_deBruijn32tab), ("math/bits.deBruijn64tab", Rows.laid_math_bits_deBruijn64tab), ("internal/strconv.uint64pow10", Rows.laid_internal_strconv_uint64pow10), ("unicode/utf8.acceptRanges", Rows.laid_unicode_utf8_acceptRanges), ("strconv.ErrRange", Rows.laid_strconv_ErrRange), ("strconv.ErrSyntax", Rows.laid_strconv_ErrSyntax), ("unicode/utf8.first", Rows.laid_unicode_utf8_first)]
theorem std_parts {W : World} {ps : List MemPlace} (h : DataW.LaidVars Tryz.prog W (laidList) ps) : Lib.TabIs Tryz.prog W "internal/strconv.uint64pow10" .u64 Lib.pow10Tab ∧ (∃ tp p, W.var? Tryz.prog "strconv.ErrSyntax" = some #[.iface tp p]) ∧ (∃ tp p, W.var? Tryz.prog "strconv.ErrRange" = some #[.iface tp p]) := by
  obtain ⟨g1, t1, cs1, fu1, p1, q1, hg1, ht1, hv1, hd1, h, -⟩ := h
  obtain ⟨g2, t2, cs2, fu2, p2, q2, hg2, ht2, hv2, hd2, h, -⟩ := h
  obtain ⟨g3, t3, cs3, fu3, p3, q3, hg3, ht3, hv3, hd3, h, -⟩ := h
  obtain ⟨g4, t4, cs4, fu4, p4, q4, hg4, ht4, hv4, hd4, h, -⟩ := h
  obtain ⟨g5, t5, cs5, fu5, p5, q5, hg5, ht5, hv5, hd5, h, -⟩ := h
  obtain ⟨g6, t6, cs6, fu6, p6, q6, hg6, ht6, hv6, hd6, h, -⟩ := h
  refine ⟨?_, ?_, ?_⟩
  · have a1 : Tryz.prog.globalNamed "internal/strconv.uint64pow10" = some 1 := by kernel_rfl
    obtain rfl := Option.some.inj (a1.symm.trans hg3)
    have a2 : (Tryz.prog.globals[1]?).map (·.type) = some 175 := by kernel_rfl
    obtain rfl := Option.some.inj (a2.symm.trans ht3)
    have ht : Tryz.prog.underlying 175 = some (.array 20 161) := by kernel_rfl
    have he : Tryz.prog.underlying 161 = some (.int .u64) := by kernel_rfl
    unfold Lib.TabIs
    rw [hv3]
    have h3 := Lib.cells_of_tab (zs := Lib.pow10Tab) ht he (by kernel_rfl) (by kernel_rfl) hd3
    rw [← h3]
  · have a1 : Tryz.prog.globalNamed "strconv.ErrSyntax" = some 4 := by kernel_rfl
    obtain rfl := Option.some.inj (a1.symm.trans hg6)
    have a2 : (Tryz.prog.globals[4]?).map (·.type) = some 68 := by kernel_rfl
    obtain rfl := Option.some.inj (a2.symm.trans ht6)
    obtain ⟨fu, u, v, hc, -, -⟩ := iface_of_trod Tryz.underlying68 hd6
    exact ⟨u, v, by rw [hv6]; congr 1; exact Array.toList_inj.1 hc⟩
  · have a1 : Tryz.prog.globalNamed "strconv.ErrRange" = some 5 := by kernel_rfl
    obtain rfl := Option.some.inj (a1.symm.trans hg5)
    have a2 : (Tryz.prog.globals[5]?).map (·.type) = some 68 := by kernel_rfl
    obtain rfl := Option.some.inj (a2.symm.trans ht5)
    obtain ⟨fu, u, v, hc, -, -⟩ := iface_of_trod Tryz.underlying68 hd5
    exact ⟨u, v, by rw [hv5]; congr 1; exact Array.toList_inj.1 hc⟩
theorem std_of {W : World} (h : laidMetH Tryz.prog laidList W) (hs : W.ShapedOpen Tryz.prog) : Std W := by
  have h' : laidMet Tryz.prog laidList W := h
  obtain ⟨ps, hv, -⟩ := h'
  obtain ⟨h1, h2, h3⟩ := std_parts hv
  exact ⟨h1, h2, h3, Go.Proofs.cell_of_shapedOpen_int (zero := #[.int .i64 0]) (t := 3) hs (of_decide_eq_true (by kernel_rfl)) (by kernel_rfl) rfl (by kernel_rfl) (by kernel_rfl) Tryz.underlying3⟩
end Go.Proofs.YtbmaecdlkchkeaaGreatDoor
