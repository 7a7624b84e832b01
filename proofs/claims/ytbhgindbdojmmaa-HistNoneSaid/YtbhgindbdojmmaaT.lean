import Derived.Test.YtbhgindbdojmmaaFwOps2
import Derived.Test.YtbhgindbdojmmaaF
namespace Go.Proofs.Ytbhgindbdojmmaa
open Go Go.Fw Go.Proofs
theorem sc2 : scal Try.prog 2 = true := by kernel_rfl
theorem sc3 : scal Try.prog 3 = true := by kernel_rfl
theorem sc4 : scal Try.prog 4 = true := by kernel_rfl
theorem sc9 : scal Try.prog 9 = true := by kernel_rfl
theorem sc23 : scal Try.prog 23 = true := by kernel_rfl
theorem sc28 : scal Try.prog 28 = true := by kernel_rfl
theorem sc42 : scal Try.prog 42 = true := by kernel_rfl
theorem sc45 : scal Try.prog 45 = true := by kernel_rfl
theorem sc55 : scal Try.prog 55 = true := by kernel_rfl
theorem sc62 : scal Try.prog 62 = true := by kernel_rfl
theorem sc66 : scal Try.prog 66 = true := by kernel_rfl
theorem sc102 : scal Try.prog 102 = true := by kernel_rfl
theorem fo36_0 : fieldOff Try.prog 36 0 = some 0 := by kernel_rfl  -- "lanyard/api.HistLine."Text
theorem fo36_1 : fieldOff Try.prog 36 1 = some 1 := by kernel_rfl  -- "lanyard/api.HistLine."Time
theorem fo47_0 : fieldOff Try.prog 47 0 = some 0 := by kernel_rfl  -- "lanyard/lanyardlaw10.Go."To
theorem fo47_1 : fieldOff Try.prog 47 1 = some 1 := by kernel_rfl  -- "lanyard/lanyardlaw10.Go."Here
theorem fo64_0 : fieldOff Try.prog 64 0 = some 0 := by kernel_rfl  -- "lanyard/lanyardref10.Walk."was
theorem fo64_1 : fieldOff Try.prog 64 1 = some 1 := by kernel_rfl  -- "lanyard/lanyardref10.Walk."now
theorem fo64_2 : fieldOff Try.prog 64 2 = some 2 := by kernel_rfl  -- "lanyard/lanyardref10.Walk."Place
theorem fo77_0 : fieldOff Try.prog 77 0 = some 0 := by kernel_rfl  -- "lanyard/lanyardlaw10.Op."Do
theorem fo77_1 : fieldOff Try.prog 77 1 = some 1 := by kernel_rfl  -- "lanyard/lanyardlaw10.Op."Lines
theorem fo77_2 : fieldOff Try.prog 77 2 = some 2 := by kernel_rfl  -- "lanyard/lanyardlaw10.Op."I
theorem fo77_3 : fieldOff Try.prog 77 3 = some 3 := by kernel_rfl  -- "lanyard/lanyardlaw10.Op."N
theorem fo77_4 : fieldOff Try.prog 77 4 = some 4 := by kernel_rfl  -- "lanyard/lanyardlaw10.Op."Text
theorem fo77_5 : fieldOff Try.prog 77 5 = some 5 := by kernel_rfl  -- "lanyard/lanyardlaw10.Op."Back
theorem fo77_6 : fieldOff Try.prog 77 6 = some 6 := by kernel_rfl  -- "lanyard/lanyardlaw10.Op."Begins
theorem fo81_0 : fieldOff Try.prog 81 0 = some 0 := by kernel_rfl  -- "lanyard/lanyardref10.List."L
theorem fo81_1 : fieldOff Try.prog 81 1 = some 1 := by kernel_rfl  -- "lanyard/lanyardref10.List."Base
theorem fo81_2 : fieldOff Try.prog 81 2 = some 2 := by kernel_rfl  -- "lanyard/lanyardref10.List."Most
theorem fo85_0 : fieldOff Try.prog 85 0 = some 0 := by kernel_rfl  -- "lanyard/histlist.kept."lines
theorem fo85_1 : fieldOff Try.prog 85 1 = some 1 := by kernel_rfl  -- "lanyard/histlist.kept."base
theorem fo85_2 : fieldOff Try.prog 85 2 = some 2 := by kernel_rfl  -- "lanyard/histlist.kept."most
theorem fo87_0 : fieldOff Try.prog 87 0 = some 0 := by kernel_rfl  -- "lanyard/histlist.List."kept
theorem fo96_0 : fieldOff Try.prog 96 0 = some 0 := by kernel_rfl  -- "lanyard/histlist.Walk."was
theorem fo96_1 : fieldOff Try.prog 96 1 = some 1 := by kernel_rfl  -- "lanyard/histlist.Walk."now
theorem fo96_2 : fieldOff Try.prog 96 2 = some 2 := by kernel_rfl  -- "lanyard/histlist.Walk."place
theorem fo106_0 : fieldOff Try.prog 106 0 = some 0 := by kernel_rfl  -- "lanyard/lanyardref10.Change."Place
theorem fo106_1 : fieldOff Try.prog 106 1 = some 1 := by kernel_rfl  -- "lanyard/lanyardref10.Change."Text
theorem el22 : elT Try.prog 22 = some (28, 1) := by kernel_rfl
theorem el28 : elT Try.prog 28 = some (36, 2) := by kernel_rfl
theorem el40 : elT Try.prog 40 = some (47, 2) := by kernel_rfl
theorem el62 : elT Try.prog 62 = some (9, 1) := by kernel_rfl
theorem el66 : elT Try.prog 66 = some (106, 2) := by kernel_rfl
theorem el74 : elT Try.prog 74 = some (77, 7) := by kernel_rfl
theorem el88 : elT Try.prog 88 = some (23, 1) := by kernel_rfl
theorem el97 : elT Try.prog 97 = some (42, 1) := by kernel_rfl
theorem el102 : elT Try.prog 102 = some (3, 1) := by kernel_rfl
theorem sl28 : SlT Try.prog 28 36 2 24 (.agg #[(.string ⟨#[]⟩), (.int .i64 0)]) := slT_of (by kernel_rfl) rfl (by decide)
theorem sl62 : SlT Try.prog 62 9 1 16 (.string ⟨#[]⟩) := slT_of (by kernel_rfl) rfl (by decide)
theorem sl66 : SlT Try.prog 66 106 2 24 (.agg #[(.int .i64 0), (.string ⟨#[]⟩)]) := slT_of (by kernel_rfl) rfl (by decide)
theorem sl88 : SlT Try.prog 88 23 1 8 (.pointer none) := slT_of (by kernel_rfl) rfl (by decide)
theorem sl97 : SlT Try.prog 97 42 1 8 (.pointer none) := slT_of (by kernel_rfl) rfl (by decide)
theorem sl102 : SlT Try.prog 102 3 1 8 (.int .i64 0) := slT_of (by kernel_rfl) rfl (by decide)
theorem pt23 : isPtrT Try.prog 23 = true := by kernel_rfl
theorem pt42 : isPtrT Try.prog 42 = true := by kernel_rfl
theorem pt55 : isPtrT Try.prog 55 = true := by kernel_rfl
theorem bt4 : isBoolT Try.prog 4 = true := by kernel_rfl
-- whole values: 36 47 77
end Go.Proofs.Ytbhgindbdojmmaa
