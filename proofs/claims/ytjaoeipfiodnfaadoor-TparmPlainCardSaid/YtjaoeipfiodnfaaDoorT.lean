import Derived.Test.YtjaoeipfiodnfaaDoorFwOps2
import Derived.Test.YtjaoeipfiodnfaaDoorF
namespace Go.Proofs.YtjaoeipfiodnfaaDoor
open Go Go.Fw Go.Proofs
theorem sc3 : scal Tryd.prog 3 = true := by kernel_rfl
theorem sc4 : scal Tryd.prog 4 = true := by kernel_rfl
theorem sc5 : scal Tryd.prog 5 = true := by kernel_rfl
theorem sc9 : scal Tryd.prog 9 = true := by kernel_rfl
theorem sc21 : scal Tryd.prog 21 = true := by kernel_rfl
theorem sc22 : scal Tryd.prog 22 = true := by kernel_rfl
theorem sc25 : scal Tryd.prog 25 = true := by kernel_rfl
theorem sc27 : scal Tryd.prog 27 = true := by kernel_rfl
theorem sc30 : scal Tryd.prog 30 = true := by kernel_rfl
theorem sc39 : scal Tryd.prog 39 = true := by kernel_rfl
theorem sc51 : scal Tryd.prog 51 = true := by kernel_rfl
theorem sc59 : scal Tryd.prog 59 = true := by kernel_rfl
theorem sc71 : scal Tryd.prog 71 = true := by kernel_rfl
theorem sc84 : scal Tryd.prog 84 = true := by kernel_rfl
theorem fo36_0 : fieldOff Tryd.prog 36 0 = some 0 := by kernel_rfl  -- "lanyard/api.Param."Num
theorem fo36_1 : fieldOff Tryd.prog 36 1 = some 1 := by kernel_rfl  -- "lanyard/api.Param."Text
theorem fo36_2 : fieldOff Tryd.prog 36 2 = some 2 := by kernel_rfl  -- "lanyard/api.Param."Is
theorem fo53_1 : fieldOff Tryd.prog 53 1 = some 1 := by kernel_rfl  -- "lanyard/tparm.Cap."codes
theorem fo53_2 : fieldOff Tryd.prog 53 2 = some 2 := by kernel_rfl  -- "lanyard/tparm.Cap."bad
theorem fo53_3 : fieldOff Tryd.prog 53 3 = some 3 := by kernel_rfl  -- "lanyard/tparm.Cap."e
theorem fo53_4 : fieldOff Tryd.prog 53 4 = some 4 := by kernel_rfl  -- "lanyard/tparm.Cap."made
theorem fo61_0 : fieldOff Tryd.prog 61 0 = some 0 := by kernel_rfl  -- "lanyard/tparm.Vars."l
theorem fo73_0 : fieldOff Tryd.prog 73 0 = some 0 := by kernel_rfl  -- "lanyard/tparm.machine."v
theorem fo73_1 : fieldOff Tryd.prog 73 1 = some 1 := by kernel_rfl  -- "lanyard/tparm.machine."params
theorem fo73_2 : fieldOff Tryd.prog 73 2 = some 28 := by kernel_rfl  -- "lanyard/tparm.machine."stack
theorem fo73_3 : fieldOff Tryd.prog 73 3 = some 29 := by kernel_rfl  -- "lanyard/tparm.machine."out
theorem fo76_0 : fieldOff Tryd.prog 76 0 = some 0 := by kernel_rfl  -- "lanyard/tparm.code."at
theorem fo76_1 : fieldOff Tryd.prog 76 1 = some 1 := by kernel_rfl  -- "lanyard/tparm.code."op
theorem fo76_2 : fieldOff Tryd.prog 76 2 = some 2 := by kernel_rfl  -- "lanyard/tparm.code."c
theorem fo76_3 : fieldOff Tryd.prog 76 3 = some 3 := by kernel_rfl  -- "lanyard/tparm.code."n
theorem fo76_4 : fieldOff Tryd.prog 76 4 = some 4 := by kernel_rfl  -- "lanyard/tparm.code."flags
theorem fo76_5 : fieldOff Tryd.prog 76 5 = some 5 := by kernel_rfl  -- "lanyard/tparm.code."width
theorem fo76_6 : fieldOff Tryd.prog 76 6 = some 6 := by kernel_rfl  -- "lanyard/tparm.code."prec
theorem fo86_0 : fieldOff Tryd.prog 86 0 = some 0 := by kernel_rfl  -- "strings.Builder."addr
theorem fo86_1 : fieldOff Tryd.prog 86 1 = some 1 := by kernel_rfl  -- "strings.Builder."buf
theorem fo95_0 : fieldOff Tryd.prog 95 0 = some 0 := by kernel_rfl  -- "lanyard/lanyardref04.Vars."V
theorem fo99_0 : fieldOff Tryd.prog 99 0 = some 0 := by kernel_rfl  -- "lanyard/lanyardref04.Code."At
theorem fo99_1 : fieldOff Tryd.prog 99 1 = some 1 := by kernel_rfl  -- "lanyard/lanyardref04.Code."Do
theorem fo99_2 : fieldOff Tryd.prog 99 2 = some 2 := by kernel_rfl  -- "lanyard/lanyardref04.Code."N
theorem fo99_3 : fieldOff Tryd.prog 99 3 = some 3 := by kernel_rfl  -- "lanyard/lanyardref04.Code."Text
theorem fo99_4 : fieldOff Tryd.prog 99 4 = some 4 := by kernel_rfl  -- "lanyard/lanyardref04.Code."Width
theorem fo99_5 : fieldOff Tryd.prog 99 5 = some 5 := by kernel_rfl  -- "lanyard/lanyardref04.Code."Prec
theorem fo99_6 : fieldOff Tryd.prog 99 6 = some 6 := by kernel_rfl  -- "lanyard/lanyardref04.Code."End
theorem fo107_0 : fieldOff Tryd.prog 107 0 = some 0 := by kernel_rfl  -- "lanyard/tparm.parser."s
theorem fo107_1 : fieldOff Tryd.prog 107 1 = some 1 := by kernel_rfl  -- "lanyard/tparm.parser."at
theorem fo148_0 : fieldOff Tryd.prog 148 0 = some 0 := by kernel_rfl  -- "unicode/utf8.acceptRange."lo
theorem fo148_1 : fieldOff Tryd.prog 148 1 = some 1 := by kernel_rfl  -- "unicode/utf8.acceptRange."hi
theorem el22 : elT Tryd.prog 22 = some (36, 3) := by kernel_rfl
theorem el33 : elT Tryd.prog 33 = some (9, 1) := by kernel_rfl
theorem el43 : elT Tryd.prog 43 = some (21, 1) := by kernel_rfl
theorem el51 : elT Tryd.prog 51 = some (76, 7) := by kernel_rfl
theorem el54 : elT Tryd.prog 54 = some (27, 1) := by kernel_rfl
theorem el62 : elT Tryd.prog 62 = some (30, 1) := by kernel_rfl
theorem el71 : elT Tryd.prog 71 = some (5, 1) := by kernel_rfl
theorem sl22 : SlT Tryd.prog 22 36 3 32 (.agg #[(.int .i32 0), (.string ⟨#[]⟩), (.bool false)]) := slT_of (by kernel_rfl) rfl (by decide)
theorem sl33 : SlT Tryd.prog 33 9 1 16 (.string ⟨#[]⟩) := slT_of (by kernel_rfl) rfl (by decide)
theorem sl43 : SlT Tryd.prog 43 21 1 4 (.int .i32 0) := slT_of (by kernel_rfl) rfl (by decide)
theorem sl51 : SlT Tryd.prog 51 76 7 48 (.agg #[(.int .i64 0), (.int .u8 0), (.int .u8 0), (.int .i32 0), (.string ⟨#[]⟩), (.int .i64 0), (.int .i64 0)]) := slT_of (by kernel_rfl) rfl (by decide)
theorem sl54 : SlT Tryd.prog 54 27 1 8 (.pointer none) := slT_of (by kernel_rfl) rfl (by decide)
theorem sl62 : SlT Tryd.prog 62 30 1 8 (.pointer none) := slT_of (by kernel_rfl) rfl (by decide)
theorem sl71 : SlT Tryd.prog 71 5 1 1 (.int .u8 0) := slT_of (by kernel_rfl) rfl (by decide)
theorem pt27 : isPtrT Tryd.prog 27 = true := by kernel_rfl
theorem pt30 : isPtrT Tryd.prog 30 = true := by kernel_rfl
theorem pt84 : isPtrT Tryd.prog 84 = true := by kernel_rfl
-- whole values: 36 76 99 137 148 149 158 159
end Go.Proofs.YtjaoeipfiodnfaaDoor
