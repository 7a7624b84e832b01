import Derived.Test.YthpbiliajcameaaDoorFwOps2
import Derived.Test.YthpbiliajcameaaDoorF
namespace Go.Proofs.YthpbiliajcameaaDoor
open Go Go.Fw Go.Proofs
theorem sc3 : scal Tryd.prog 3 = true := by kernel_rfl
theorem sc4 : scal Tryd.prog 4 = true := by kernel_rfl
theorem sc5 : scal Tryd.prog 5 = true := by kernel_rfl
theorem sc9 : scal Tryd.prog 9 = true := by kernel_rfl
theorem sc21 : scal Tryd.prog 21 = true := by kernel_rfl
theorem sc22 : scal Tryd.prog 22 = true := by kernel_rfl
theorem sc23 : scal Tryd.prog 23 = true := by kernel_rfl
theorem sc35 : scal Tryd.prog 35 = true := by kernel_rfl
theorem sc36 : scal Tryd.prog 36 = true := by kernel_rfl
theorem sc45 : scal Tryd.prog 45 = true := by kernel_rfl
theorem fo27_0 : fieldOff Tryd.prog 27 0 = some 0 := by kernel_rfl  -- "lanyard/lanyardref22.Paste."b
theorem fo27_1 : fieldOff Tryd.prog 27 1 = some 1 := by kernel_rfl  -- "lanyard/lanyardref22.Paste."ended
theorem fo27_2 : fieldOff Tryd.prog 27 2 = some 2 := by kernel_rfl  -- "lanyard/lanyardref22.Paste."cut
theorem fo38_0 : fieldOff Tryd.prog 38 0 = some 0 := by kernel_rfl  -- "lanyard/macro.Queue."typed
theorem fo38_1 : fieldOff Tryd.prog 38 1 = some 1 := by kernel_rfl  -- "lanyard/macro.Queue."macros
theorem fo38_2 : fieldOff Tryd.prog 38 2 = some 2 := by kernel_rfl  -- "lanyard/macro.Queue."run
theorem fo38_3 : fieldOff Tryd.prog 38 3 = some 3 := by kernel_rfl  -- "lanyard/macro.Queue."made
theorem fo47_0 : fieldOff Tryd.prog 47 0 = some 0 := by kernel_rfl  -- "lanyard/macro.Recorder."now
theorem fo47_1 : fieldOff Tryd.prog 47 1 = some 1 := by kernel_rfl  -- "lanyard/macro.Recorder."on
theorem fo47_2 : fieldOff Tryd.prog 47 2 = some 2 := by kernel_rfl  -- "lanyard/macro.Recorder."last
theorem fo47_3 : fieldOff Tryd.prog 47 3 = some 3 := by kernel_rfl  -- "lanyard/macro.Recorder."is
theorem fo47_4 : fieldOff Tryd.prog 47 4 = some 4 := by kernel_rfl  -- "lanyard/macro.Recorder."made
theorem fo54_0 : fieldOff Tryd.prog 54 0 = some 0 := by kernel_rfl  -- "lanyard/macro.Paste."b
theorem fo54_1 : fieldOff Tryd.prog 54 1 = some 1 := by kernel_rfl  -- "lanyard/macro.Paste."done
theorem fo54_2 : fieldOff Tryd.prog 54 2 = some 2 := by kernel_rfl  -- "lanyard/macro.Paste."made
theorem fo78_0 : fieldOff Tryd.prog 78 0 = some 0 := by kernel_rfl  -- "unicode/utf8.acceptRange."lo
theorem fo78_1 : fieldOff Tryd.prog 78 1 = some 1 := by kernel_rfl  -- "unicode/utf8.acceptRange."hi
theorem el22 : elT Tryd.prog 22 = some (5, 1) := by kernel_rfl
theorem el32 : elT Tryd.prog 32 = some (21, 1) := by kernel_rfl
theorem el36 : elT Tryd.prog 36 = some (22, 1) := by kernel_rfl
theorem el39 : elT Tryd.prog 39 = some (35, 1) := by kernel_rfl
theorem el48 : elT Tryd.prog 48 = some (45, 1) := by kernel_rfl
theorem el55 : elT Tryd.prog 55 = some (23, 1) := by kernel_rfl
theorem sl22 : SlT Tryd.prog 22 5 1 1 (.int .u8 0) := slT_of (by kernel_rfl) rfl (by decide)
theorem sl32 : SlT Tryd.prog 32 21 1 4 (.int .i32 0) := slT_of (by kernel_rfl) rfl (by decide)
theorem sl36 : SlT Tryd.prog 36 22 1 24 (.slice none 0 0) := slT_of (by kernel_rfl) rfl (by decide)
theorem sl39 : SlT Tryd.prog 39 35 1 8 (.pointer none) := slT_of (by kernel_rfl) rfl (by decide)
theorem sl48 : SlT Tryd.prog 48 45 1 8 (.pointer none) := slT_of (by kernel_rfl) rfl (by decide)
theorem sl55 : SlT Tryd.prog 55 23 1 8 (.pointer none) := slT_of (by kernel_rfl) rfl (by decide)
theorem pt23 : isPtrT Tryd.prog 23 = true := by kernel_rfl
theorem pt35 : isPtrT Tryd.prog 35 = true := by kernel_rfl
theorem pt45 : isPtrT Tryd.prog 45 = true := by kernel_rfl
theorem bt4 : isBoolT Tryd.prog 4 = true := by kernel_rfl
-- whole values: 47 78 79
end Go.Proofs.YthpbiliajcameaaDoor
