import Derived.Test.YtbhgindbdojmmaaFwSound3
import Derived.Test.YtbhgindbdojmmaaProg
set_option linter.unusedVariables false
namespace Go.Proofs.Ytbhgindbdojmmaa
open Go Go.Fw Go.Proofs
def ents : List Nat := [3, 4, 5, 6, 7, 8, 9, 10, 11, 12, 13, 14, 15, 16, 17, 18, 19, 20, 21, 22, 23, 24, 25, 26, 27, 28, 29, 30, 31, 32, 33, 34, 35, 36, 37, 38, 39, 40, 41, 42, 43, 44, 45, 46, 47, 48, 49, 50, 51, 52, 53, 54, 55, 56, 57, 58, 59, 60, 61, 62, 63, 64, 65, 66, 67, 68, 69, 71, 72, 73, 74, 76, 77]
theorem entOk : chkEnt Try.prog (has ents) := fun f h => by
  have h := has_mem.1 h
  simp only [ents, List.mem_cons, List.not_mem_nil, or_false] at h
  rcases h with rfl | rfl | rfl | rfl | rfl | rfl | rfl | rfl | rfl | rfl | rfl | rfl | rfl | rfl | rfl | rfl | rfl | rfl | rfl | rfl | rfl | rfl | rfl | rfl | rfl | rfl | rfl | rfl | rfl | rfl | rfl | rfl | rfl | rfl | rfl | rfl | rfl | rfl | rfl | rfl | rfl | rfl | rfl | rfl | rfl | rfl | rfl | rfl | rfl | rfl | rfl | rfl | rfl | rfl | rfl | rfl | rfl | rfl | rfl | rfl | rfl | rfl | rfl | rfl | rfl | rfl | rfl | rfl | rfl | rfl | rfl | rfl | rfl
  · exact ⟨_, Try.func3, by decide, rfl⟩
  · exact ⟨_, Try.func4, by decide, rfl⟩
  · exact ⟨_, Try.func5, by decide, rfl⟩
  · exact ⟨_, Try.func6, by decide, rfl⟩
  · exact ⟨_, Try.func7, by decide, rfl⟩
  · exact ⟨_, Try.func8, by decide, rfl⟩
  · exact ⟨_, Try.func9, by decide, rfl⟩
  · exact ⟨_, Try.func10, by decide, rfl⟩
  · exact ⟨_, Try.func11, by decide, rfl⟩
  · exact ⟨_, Try.func12, by decide, rfl⟩
  · exact ⟨_, Try.func13, by decide, rfl⟩
  · exact ⟨_, Try.func14, by decide, rfl⟩
  · exact ⟨_, Try.func15, by decide, rfl⟩
  · exact ⟨_, Try.func16, by decide, rfl⟩
  · exact ⟨_, Try.func17, by decide, rfl⟩
  · exact ⟨_, Try.func18, by decide, rfl⟩
  · exact ⟨_, Try.func19, by decide, rfl⟩
  · exact ⟨_, Try.func20, by decide, rfl⟩
  · exact ⟨_, Try.func21, by decide, rfl⟩
  · exact ⟨_, Try.func22, by decide, rfl⟩
  · exact ⟨_, Try.func23, by decide, rfl⟩
  · exact ⟨_, Try.func24, by decide, rfl⟩
  · exact ⟨_, Try.func25, by decide, rfl⟩
  · exact ⟨_, Try.func26, by decide, rfl⟩
  · exact ⟨_, Try.func27, by decide, rfl⟩
  · exact ⟨_, Try.func28, by decide, rfl⟩
  · exact ⟨_, Try.func29, by decide, rfl⟩
  · exact ⟨_, Try.func30, by decide, rfl⟩
  · exact ⟨_, Try.func31, by decide, rfl⟩
  · exact ⟨_, Try.func32, by decide, rfl⟩
  · exact ⟨_, Try.func33, by decide, rfl⟩
  · exact ⟨_, Try.func34, by decide, rfl⟩
  · exact ⟨_, Try.func35, by decide, rfl⟩
  · exact ⟨_, Try.func36, by decide, rfl⟩
  · exact ⟨_, Try.func37, by decide, rfl⟩
  · exact ⟨_, Try.func38, by decide, rfl⟩
  · exact ⟨_, Try.func39, by decide, rfl⟩
  · exact ⟨_, Try.func40, by decide, rfl⟩
  · exact ⟨_, Try.func41, by decide, rfl⟩
  · exact ⟨_, Try.func42, by decide, rfl⟩
  · exact ⟨_, Try.func43, by decide, rfl⟩
  · exact ⟨_, Try.func44, by decide, rfl⟩
  · exact ⟨_, Try.func45, by decide, rfl⟩
  · exact ⟨_, Try.func46, by decide, rfl⟩
  · exact ⟨_, Try.func47, by decide, rfl⟩
  · exact ⟨_, Try.func48, by decide, rfl⟩
  · exact ⟨_, Try.func49, by decide, rfl⟩
  · exact ⟨_, Try.func50, by decide, rfl⟩
  · exact ⟨_, Try.func51, by decide, rfl⟩
  · exact ⟨_, Try.func52, by decide, rfl⟩
  · exact ⟨_, Try.func53, by decide, rfl⟩
  · exact ⟨_, Try.func54, by decide, rfl⟩
  · exact ⟨_, Try.func55, by decide, rfl⟩
  · exact ⟨_, Try.func56, by decide, rfl⟩
  · exact ⟨_, Try.func57, by decide, rfl⟩
  · exact ⟨_, Try.func58, by decide, rfl⟩
  · exact ⟨_, Try.func59, by decide, rfl⟩
  · exact ⟨_, Try.func60, by decide, rfl⟩
  · exact ⟨_, Try.func61, by decide, rfl⟩
  · exact ⟨_, Try.func62, by decide, rfl⟩
  · exact ⟨_, Try.func63, by decide, rfl⟩
  · exact ⟨_, Try.func64, by decide, rfl⟩
  · exact ⟨_, Try.func65, by decide, rfl⟩
  · exact ⟨_, Try.func66, by decide, rfl⟩
  · exact ⟨_, Try.func67, by decide, rfl⟩
  · exact ⟨_, Try.func68, by decide, rfl⟩
  · exact ⟨_, Try.func69, by decide, rfl⟩
  · exact ⟨_, Try.func71, by decide, rfl⟩
  · exact ⟨_, Try.func72, by decide, rfl⟩
  · exact ⟨_, Try.func73, by decide, rfl⟩
  · exact ⟨_, Try.func74, by decide, rfl⟩
  · exact ⟨_, Try.func76, by decide, rfl⟩
  · exact ⟨_, Try.func77, by decide, rfl⟩
theorem mixOk : Try.prog.follows .mixedOrders = true := by kernel_rfl
def bodyOf (fn : Func) : Code := match fn.body with
  | some c => c
  | none => .skip
end Go.Proofs.Ytbhgindbdojmmaa
