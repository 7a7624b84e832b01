import Derived.Test.YthpbiliajcameaaFwOps2
import Derived.Test.YthpbiliajcameaaF
namespace Go.Proofs.Ythpbiliajcameaa
open Go Go.Fw Go.Proofs
theorem sc3 : scal Try.prog 3 = true := by kernel_rfl
theorem sc4 : scal Try.prog 4 = true := by kernel_rfl
theorem sc5 : scal Try.prog 5 = true := by kernel_rfl
theorem sc9 : scal Try.prog 9 = true := by kernel_rfl
theorem sc22 : scal Try.prog 22 = true := by kernel_rfl
theorem sc23 : scal Try.prog 23 = true := by kernel_rfl
theorem sc32 : scal Try.prog 32 = true := by kernel_rfl
theorem sc33 : scal Try.prog 33 = true := by kernel_rfl
theorem sc42 : scal Try.prog 42 = true := by kernel_rfl
theorem sc45 : scal Try.prog 45 = true := by kernel_rfl
theorem fo44_0 : fieldOff Try.prog 44 0 = some 0 := by kernel_rfl  -- "lanyard/lanyardref22.Queue."Macros
theorem fo44_1 : fieldOff Try.prog 44 1 = some 1 := by kernel_rfl  -- "lanyard/lanyardref22.Queue."Typed
theorem fo44_2 : fieldOff Try.prog 44 2 = some 2 := by kernel_rfl  -- "lanyard/lanyardref22.Queue."run
theorem fo47_0 : fieldOff Try.prog 47 0 = some 0 := by kernel_rfl  -- "lanyard/lanyardref22.Recorder."On
theorem fo47_1 : fieldOff Try.prog 47 1 = some 1 := by kernel_rfl  -- "lanyard/lanyardref22.Recorder."now
theorem fo47_2 : fieldOff Try.prog 47 2 = some 2 := by kernel_rfl  -- "lanyard/lanyardref22.Recorder."Has
theorem fo47_3 : fieldOff Try.prog 47 3 = some 3 := by kernel_rfl  -- "lanyard/lanyardref22.Recorder."Last
theorem fo49_0 : fieldOff Try.prog 49 0 = some 0 := by kernel_rfl  -- "lanyard/lanyardlaw22.pair."q
theorem fo49_1 : fieldOff Try.prog 49 1 = some 1 := by kernel_rfl  -- "lanyard/lanyardlaw22.pair."r
theorem fo49_2 : fieldOff Try.prog 49 2 = some 2 := by kernel_rfl  -- "lanyard/lanyardlaw22.pair."p
theorem fo49_3 : fieldOff Try.prog 49 3 = some 3 := by kernel_rfl  -- "lanyard/lanyardlaw22.pair."s
theorem fo51_0 : fieldOff Try.prog 51 0 = some 0 := by kernel_rfl  -- "lanyard/lanyardlaw22.Op."Do
theorem fo51_1 : fieldOff Try.prog 51 1 = some 1 := by kernel_rfl  -- "lanyard/lanyardlaw22.Op."Bytes
theorem fo55_0 : fieldOff Try.prog 55 0 = some 0 := by kernel_rfl  -- "lanyard/macro.Queue."typed
theorem fo55_1 : fieldOff Try.prog 55 1 = some 1 := by kernel_rfl  -- "lanyard/macro.Queue."macros
theorem fo55_2 : fieldOff Try.prog 55 2 = some 2 := by kernel_rfl  -- "lanyard/macro.Queue."run
theorem fo55_3 : fieldOff Try.prog 55 3 = some 3 := by kernel_rfl  -- "lanyard/macro.Queue."made
theorem fo58_0 : fieldOff Try.prog 58 0 = some 0 := by kernel_rfl  -- "lanyard/macro.Recorder."now
theorem fo58_1 : fieldOff Try.prog 58 1 = some 1 := by kernel_rfl  -- "lanyard/macro.Recorder."on
theorem fo58_2 : fieldOff Try.prog 58 2 = some 2 := by kernel_rfl  -- "lanyard/macro.Recorder."last
theorem fo58_3 : fieldOff Try.prog 58 3 = some 3 := by kernel_rfl  -- "lanyard/macro.Recorder."is
theorem fo58_4 : fieldOff Try.prog 58 4 = some 4 := by kernel_rfl  -- "lanyard/macro.Recorder."made
theorem el22 : elT Try.prog 22 = some (5, 1) := by kernel_rfl
theorem el32 : elT Try.prog 32 = some (22, 1) := by kernel_rfl
theorem el40 : elT Try.prog 40 = some (51, 2) := by kernel_rfl
theorem sl22 : SlT Try.prog 22 5 1 1 (.int .u8 0) := slT_of (by kernel_rfl) rfl (by decide)
theorem sl32 : SlT Try.prog 32 22 1 24 (.slice none 0 0) := slT_of (by kernel_rfl) rfl (by decide)
theorem pt23 : isPtrT Try.prog 23 = true := by kernel_rfl
theorem pt33 : isPtrT Try.prog 33 = true := by kernel_rfl
theorem bt4 : isBoolT Try.prog 4 = true := by kernel_rfl
-- whole values: 51 58
end Go.Proofs.Ythpbiliajcameaa
