/-
  What a row's listed variables (unicode/utf8's two tables) give a walk. No conditions.
-/
import Derived.Test.YtdcdhcgfhapbnaaDoorRows
import Derived.Test.YtdcdhcgfhapbnaaDoorShelf
import Derived.Lib.LaidU8
import Derived.PinnedBridge
import Derived.LaidMore
namespace Go.Proofs.YtdcdhcgfhapbnaaDoor
open Go Go.RowKit

theorem accept_eq : (Rows.laid_unicode_utf8_acceptRanges : DataW Unit) = Lib.acceptData := by kernel_rfl

theorem tabs_of_laid {W : World} (h : laidMetH Tryd.prog [("unicode/utf8.acceptRanges", Rows.laid_unicode_utf8_acceptRanges), ("unicode/utf8.first", Rows.laid_unicode_utf8_first)] W) : Lib.Utf8Tabs 0 1 W := by
  rw [MakeChecks.laidMetH_plain _ _ _ (by kernel_rfl)] at h
  have h4 := Lib.laidMet.reads h (.head _)
  have h3 := Lib.laidMet.reads h (.tail _ (.head _))
  rw [accept_eq] at h4
  have e3 : Rows.laid_unicode_utf8_first = Lib.firstData := Pinned.utf8First_eq
  rw [e3] at h3
  exact utf8Tabs_of_reads Tryd.lays260 ⟨by kernel_rfl, by kernel_rfl, by kernel_rfl, by kernel_rfl, by kernel_rfl, by kernel_rfl, by kernel_rfl⟩ h3 h4
end Go.Proofs.YtdcdhcgfhapbnaaDoor
