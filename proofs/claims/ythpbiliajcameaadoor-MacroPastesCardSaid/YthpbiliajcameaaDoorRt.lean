import Derived.Test.YthpbiliajcameaaDoorRb
import Derived.Test.YthpbiliajcameaaDoorShelf
import Derived.Lib.LaidU8T
set_option linter.unusedVariables false
namespace Go.Proofs.YthpbiliajcameaaDoor
open Go Go.Fw Go.Proofs Go.RowKit Go.ChangeShapes Go.WideShapes Go.ChangeAt Go.Lib Go.Shelf
def u8ren : Go.Shelf.Ren := ⟨fun n => n, fun | 5 => 5 | 119 => 76 | 138 => 78 | 139 => 79 | n => n, fun | 3 => 1 | 4 => 2 | n => n⟩
theorem u8types : U8Types Tryd.prog u8ren := ⟨Tryd.underlying5, Tryd.underlying76, Tryd.underlying78, Tryd.underlying79⟩
theorem u8extra : U8Extra Tryd.prog u8ren := ⟨by kernel_rfl, by kernel_rfl, by kernel_rfl, by kernel_rfl, by kernel_rfl, by kernel_rfl, by kernel_rfl⟩
theorem tabs_of_laid {W : World} (h : laidMet Tryd.prog theLaid W) : Lib.Utf8Tabs 1 2 W := by
  have h4 : VarReads Tryd.prog W "unicode/utf8.acceptRanges" Lib.acceptData := by
    rw [← accept_eq]
    exact Lib.laidMet.reads h (.head _)
  have h3 : VarReads Tryd.prog W "unicode/utf8.first" Lib.firstData := by
    rw [← first_eq]
    exact Lib.laidMet.reads h (.tail _ (.head _))
  exact utf8Tabs_of_readsT u8types u8extra h3 h4
theorem maxLen_cell {W : World} (h : W.ShapedOpen Tryd.prog) : ∃ m, W.cell? ⟨0, 0, none⟩ = some (.int .i64 m) := Tryd.laysM185.s1_3 W h
#print axioms tabs_of_laid
end Go.Proofs.YthpbiliajcameaaDoor
