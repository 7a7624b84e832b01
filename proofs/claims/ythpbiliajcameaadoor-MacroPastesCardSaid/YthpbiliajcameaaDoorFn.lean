import Derived.Test.YthpbiliajcameaaDoorFwSound3
import Derived.Test.YthpbiliajcameaaDoorProg
set_option linter.unusedVariables false
namespace Go.Proofs.YthpbiliajcameaaDoor
open Go Go.Fw Go.Proofs
def ents : List Nat := [3, 4, 5, 6, 7, 8, 9, 10, 11, 12, 13, 14, 15, 16, 17, 18, 19, 20, 21, 22, 23, 24, 25, 26, 27, 28, 29, 30, 31, 32, 33, 34, 35, 36, 37, 38, 39, 40, 41, 42, 43, 44, 45, 46, 47, 48, 49, 51, 53, 54, 55, 57, 78]
theorem entOk : chkEnt Tryd.prog (has ents) := fun f h => by
  have h := has_mem.1 h
  simp only [ents, List.mem_cons, List.not_mem_nil, or_false] at h
  rcases h with rfl | rfl | rfl | rfl | rfl | rfl | rfl | rfl | rfl | rfl | rfl | rfl | rfl | rfl | rfl | rfl | rfl | rfl | rfl | rfl | rfl | rfl | rfl | rfl | rfl | rfl | rfl | rfl | rfl | rfl | rfl | rfl | rfl | rfl | rfl | rfl | rfl | rfl | rfl | rfl | rfl | rfl | rfl | rfl | rfl | rfl | rfl | rfl | rfl | rfl | rfl | rfl | rfl
  · exact ⟨_, Tryd.func3, by decide, rfl⟩
  · exact ⟨_, Tryd.func4, by decide, rfl⟩
  · exact ⟨_, Tryd.func5, by decide, rfl⟩
  · exact ⟨_, Tryd.func6, by decide, rfl⟩
  · exact ⟨_, Tryd.func7, by decide, rfl⟩
  · exact ⟨_, Tryd.func8, by decide, rfl⟩
  · exact ⟨_, Tryd.func9, by decide, rfl⟩
  · exact ⟨_, Tryd.func10, by decide, rfl⟩
  · exact ⟨_, Tryd.func11, by decide, rfl⟩
  · exact ⟨_, Tryd.func12, by decide, rfl⟩
  · exact ⟨_, Tryd.func13, by decide, rfl⟩
  · exact ⟨_, Tryd.func14, by decide, rfl⟩
  · exact ⟨_, Tryd.func15, by decide, rfl⟩
  · exact ⟨_, Tryd.func16, by decide, rfl⟩
  · exact ⟨_, Tryd.func17, by decide, rfl⟩
  · exact ⟨_, Tryd.func18, by decide, rfl⟩
  · exact ⟨_, Tryd.func19, by decide, rfl⟩
  · exact ⟨_, Tryd.func20, by decide, rfl⟩
  · exact ⟨_, Tryd.func21, by decide, rfl⟩
  · exact ⟨_, Tryd.func22, by decide, rfl⟩
  · exact ⟨_, Tryd.func23, by decide, rfl⟩
  · exact ⟨_, Tryd.func24, by decide, rfl⟩
  · exact ⟨_, Tryd.func25, by decide, rfl⟩
  · exact ⟨_, Tryd.func26, by decide, rfl⟩
  · exact ⟨_, Tryd.func27, by decide, rfl⟩
  · exact ⟨_, Tryd.func28, by decide, rfl⟩
  · exact ⟨_, Tryd.func29, by decide, rfl⟩
  · exact ⟨_, Tryd.func30, by decide, rfl⟩
  · exact ⟨_, Tryd.func31, by decide, rfl⟩
  · exact ⟨_, Tryd.func32, by decide, rfl⟩
  · exact ⟨_, Tryd.func33, by decide, rfl⟩
  · exact ⟨_, Tryd.func34, by decide, rfl⟩
  · exact ⟨_, Tryd.func35, by decide, rfl⟩
  · exact ⟨_, Tryd.func36, by decide, rfl⟩
  · exact ⟨_, Tryd.func37, by decide, rfl⟩
  · exact ⟨_, Tryd.func38, by decide, rfl⟩
  · exact ⟨_, Tryd.func39, by decide, rfl⟩
  · exact ⟨_, Tryd.func40, by decide, rfl⟩
  · exact ⟨_, Tryd.func41, by decide, rfl⟩
  · exact ⟨_, Tryd.func42, by decide, rfl⟩
  · exact ⟨_, Tryd.func43, by decide, rfl⟩
  · exact ⟨_, Tryd.func44, by decide, rfl⟩
  · exact ⟨_, Tryd.func45, by decide, rfl⟩
  · exact ⟨_, Tryd.func46, by decide, rfl⟩
  · exact ⟨_, Tryd.func47, by decide, rfl⟩
  · exact ⟨_, Tryd.func48, by decide, rfl⟩
  · exact ⟨_, Tryd.func49, by decide, rfl⟩
  · exact ⟨_, Tryd.func51, by decide, rfl⟩
  · exact ⟨_, Tryd.func53, by decide, rfl⟩
  · exact ⟨_, Tryd.func54, by decide, rfl⟩
  · exact ⟨_, Tryd.func55, by decide, rfl⟩
  · exact ⟨_, Tryd.func57, by decide, rfl⟩
  · exact ⟨_, Tryd.func78, by decide, rfl⟩
theorem mixOk : Tryd.prog.follows .mixedOrders = true := by kernel_rfl
def bodyOf (fn : Func) : Code := match fn.body with
  | some c => c
  | none => .skip
end Go.Proofs.YthpbiliajcameaaDoor
