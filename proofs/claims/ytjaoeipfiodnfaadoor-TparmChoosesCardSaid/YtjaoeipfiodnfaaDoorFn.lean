import Derived.Test.YtjaoeipfiodnfaaDoorFwSound3
import Derived.Test.YtjaoeipfiodnfaaDoorProg
set_option linter.unusedVariables false
namespace Go.Proofs.YtjaoeipfiodnfaaDoor
open Go Go.Fw Go.Proofs
def ents : List Nat := [3, 4, 5, 6, 7, 8, 9, 10, 11, 12, 13, 14, 15, 16, 17, 18, 19, 20, 21, 22, 23, 24, 25, 26, 27, 28, 29, 30, 31, 32, 33, 34, 35, 36, 37, 38, 39, 40, 41, 42, 43, 44, 45, 46, 47, 48, 49, 50, 51, 52, 53, 54, 55, 56, 57, 58, 59, 60, 61, 62, 63, 64, 65, 66, 67, 68, 69, 70, 71, 73, 74, 75, 76, 77, 78, 79, 80, 81, 82, 83, 84, 87, 88, 90, 91, 92, 93, 94, 95, 96, 97, 98, 99, 100, 102, 103, 128]
theorem entOk : chkEnt Tryd.prog (has ents) := fun f h => by
  have h := has_mem.1 h
  simp only [ents, List.mem_cons, List.not_mem_nil, or_false] at h
  rcases h with rfl | rfl | rfl | rfl | rfl | rfl | rfl | rfl | rfl | rfl | rfl | rfl | rfl | rfl | rfl | rfl | rfl | rfl | rfl | rfl | rfl | rfl | rfl | rfl | rfl | rfl | rfl | rfl | rfl | rfl | rfl | rfl | rfl | rfl | rfl | rfl | rfl | rfl | rfl | rfl | rfl | rfl | rfl | rfl | rfl | rfl | rfl | rfl | rfl | rfl | rfl | rfl | rfl | rfl | rfl | rfl | rfl | rfl | rfl | rfl | rfl | rfl | rfl | rfl | rfl | rfl | rfl | rfl | rfl | rfl | rfl | rfl | rfl | rfl | rfl | rfl | rfl | rfl | rfl | rfl | rfl | rfl | rfl | rfl | rfl | rfl | rfl | rfl | rfl | rfl | rfl | rfl | rfl | rfl | rfl | rfl | rfl
  · exact ⟨_, Tryd.func3, by decide, rfl⟩
  · exact ⟨_, Tryd.func4, by decide, rfl⟩
  · exact ⟨_, Tryd.func5, by decide, rfl⟩
  · exact ⟨_, Tryd.func6, by decide, rfl⟩
  · exact ⟨_, Tryd.func7, by decide, rfl⟩
  · exact ⟨_, Tryd.func8, by decide, rfl⟩
  · exact ⟨_, Tryd.func9, by decide, rfl⟩
  · exact ⟨_, Tryd.func10, by decide, rfl⟩
  · exact ⟨_, Tryd.func11, by decide, rfl⟩
  · exact ⟨_, Tryd.func12, by decide, rfl⟩
  · exact ⟨_, Tryd.func13, by decide, rfl⟩
  · exact ⟨_, Tryd.func14, by decide, rfl⟩
  · exact ⟨_, Tryd.func15, by decide, rfl⟩
  · exact ⟨_, Tryd.func16, by decide, rfl⟩
  · exact ⟨_, Tryd.func17, by decide, rfl⟩
  · exact ⟨_, Tryd.func18, by decide, rfl⟩
  · exact ⟨_, Tryd.func19, by decide, rfl⟩
  · exact ⟨_, Tryd.func20, by decide, rfl⟩
  · exact ⟨_, Tryd.func21, by decide, rfl⟩
  · exact ⟨_, Tryd.func22, by decide, rfl⟩
  · exact ⟨_, Tryd.func23, by decide, rfl⟩
  · exact ⟨_, Tryd.func24, by decide, rfl⟩
  · exact ⟨_, Tryd.func25, by decide, rfl⟩
  · exact ⟨_, Tryd.func26, by decide, rfl⟩
  · exact ⟨_, Tryd.func27, by decide, rfl⟩
  · exact ⟨_, Tryd.func28, by decide, rfl⟩
  · exact ⟨_, Tryd.func29, by decide, rfl⟩
  · exact ⟨_, Tryd.func30, by decide, rfl⟩
  · exact ⟨_, Tryd.func31, by decide, rfl⟩
  · exact ⟨_, Tryd.func32, by decide, rfl⟩
  · exact ⟨_, Tryd.func33, by decide, rfl⟩
  · exact ⟨_, Tryd.func34, by decide, rfl⟩
  · exact ⟨_, Tryd.func35, by decide, rfl⟩
  · exact ⟨_, Tryd.func36, by decide, rfl⟩
  · exact ⟨_, Tryd.func37, by decide, rfl⟩
  · exact ⟨_, Tryd.func38, by decide, rfl⟩
  · exact ⟨_, Tryd.func39, by decide, rfl⟩
  · exact ⟨_, Tryd.func40, by decide, rfl⟩
  · exact ⟨_, Tryd.func41, by decide, rfl⟩
  · exact ⟨_, Tryd.func42, by decide, rfl⟩
  · exact ⟨_, Tryd.func43, by decide, rfl⟩
  · exact ⟨_, Tryd.func44, by decide, rfl⟩
  · exact ⟨_, Tryd.func45, by decide, rfl⟩
  · exact ⟨_, Tryd.func46, by decide, rfl⟩
  · exact ⟨_, Tryd.func47, by decide, rfl⟩
  · exact ⟨_, Tryd.func48, by decide, rfl⟩
  · exact ⟨_, Tryd.func49, by decide, rfl⟩
  · exact ⟨_, Tryd.func50, by decide, rfl⟩
  · exact ⟨_, Tryd.func51, by decide, rfl⟩
  · exact ⟨_, Tryd.func52, by decide, rfl⟩
  · exact ⟨_, Tryd.func53, by decide, rfl⟩
  · exact ⟨_, Tryd.func54, by decide, rfl⟩
  · exact ⟨_, Tryd.func55, by decide, rfl⟩
  · exact ⟨_, Tryd.func56, by decide, rfl⟩
  · exact ⟨_, Tryd.func57, by decide, rfl⟩
  · exact ⟨_, Tryd.func58, by decide, rfl⟩
  · exact ⟨_, Tryd.func59, by decide, rfl⟩
  · exact ⟨_, Tryd.func60, by decide, rfl⟩
  · exact ⟨_, Tryd.func61, by decide, rfl⟩
  · exact ⟨_, Tryd.func62, by decide, rfl⟩
  · exact ⟨_, Tryd.func63, by decide, rfl⟩
  · exact ⟨_, Tryd.func64, by decide, rfl⟩
  · exact ⟨_, Tryd.func65, by decide, rfl⟩
  · exact ⟨_, Tryd.func66, by decide, rfl⟩
  · exact ⟨_, Tryd.func67, by decide, rfl⟩
  · exact ⟨_, Tryd.func68, by decide, rfl⟩
  · exact ⟨_, Tryd.func69, by decide, rfl⟩
  · exact ⟨_, Tryd.func70, by decide, rfl⟩
  · exact ⟨_, Tryd.func71, by decide, rfl⟩
  · exact ⟨_, Tryd.func73, by decide, rfl⟩
  · exact ⟨_, Tryd.func74, by decide, rfl⟩
  · exact ⟨_, Tryd.func75, by decide, rfl⟩
  · exact ⟨_, Tryd.func76, by decide, rfl⟩
  · exact ⟨_, Tryd.func77, by decide, rfl⟩
  · exact ⟨_, Tryd.func78, by decide, rfl⟩
  · exact ⟨_, Tryd.func79, by decide, rfl⟩
  · exact ⟨_, Tryd.func80, by decide, rfl⟩
  · exact ⟨_, Tryd.func81, by decide, rfl⟩
  · exact ⟨_, Tryd.func82, by decide, rfl⟩
  · exact ⟨_, Tryd.func83, by decide, rfl⟩
  · exact ⟨_, Tryd.func84, by decide, rfl⟩
  · exact ⟨_, Tryd.func87, by decide, rfl⟩
  · exact ⟨_, Tryd.func88, by decide, rfl⟩
  · exact ⟨_, Tryd.func90, by decide, rfl⟩
  · exact ⟨_, Tryd.func91, by decide, rfl⟩
  · exact ⟨_, Tryd.func92, by decide, rfl⟩
  · exact ⟨_, Tryd.func93, by decide, rfl⟩
  · exact ⟨_, Tryd.func94, by decide, rfl⟩
  · exact ⟨_, Tryd.func95, by decide, rfl⟩
  · exact ⟨_, Tryd.func96, by decide, rfl⟩
  · exact ⟨_, Tryd.func97, by decide, rfl⟩
  · exact ⟨_, Tryd.func98, by decide, rfl⟩
  · exact ⟨_, Tryd.func99, by decide, rfl⟩
  · exact ⟨_, Tryd.func100, by decide, rfl⟩
  · exact ⟨_, Tryd.func102, by decide, rfl⟩
  · exact ⟨_, Tryd.func103, by decide, rfl⟩
  · exact ⟨_, Tryd.func128, by decide, rfl⟩
theorem mixOk : Tryd.prog.follows .mixedOrders = true := by kernel_rfl
def bodyOf (fn : Func) : Code := match fn.body with
  | some c => c
  | none => .skip
end Go.Proofs.YtjaoeipfiodnfaaDoor
