import Derived.Test.YthpbiliajcameaaFwSound3
import Derived.Test.YthpbiliajcameaaProg
set_option linter.unusedVariables false
namespace Go.Proofs.Ythpbiliajcameaa
open Go Go.Fw Go.Proofs
def ents : List Nat := [3, 4, 5, 6, 7, 8, 9, 10, 11, 12, 13, 14, 15, 16, 17, 18, 19, 20, 21, 22, 23, 24, 25, 27, 28, 29, 30, 31, 32, 33, 34, 35, 36, 37, 38, 39, 40, 41, 42, 43, 44, 45, 46]
theorem entOk : chkEnt Try.prog (has ents) := fun f h => by
  have h := has_mem.1 h
  simp only [ents, List.mem_cons, List.not_mem_nil, or_false] at h
  rcases h with rfl | rfl | rfl | rfl | rfl | rfl | rfl | rfl | rfl | rfl | rfl | rfl | rfl | rfl | rfl | rfl | rfl | rfl | rfl | rfl | rfl | rfl | rfl | rfl | rfl | rfl | rfl | rfl | rfl | rfl | rfl | rfl | rfl | rfl | rfl | rfl | rfl | rfl | rfl | rfl | rfl | rfl | rfl
  · exact ⟨_, Try.func3, by decide, rfl⟩
  · exact ⟨_, Try.func4, by decide, rfl⟩
  · exact ⟨_, Try.func5, by decide, rfl⟩
  · exact ⟨_, Try.func6, by decide, rfl⟩
  · exact ⟨_, Try.func7, by decide, rfl⟩
  · exact ⟨_, Try.func8, by decide, rfl⟩
  · exact ⟨_, Try.func9, by decide, rfl⟩
  · exact ⟨_, Try.func10, by decide, rfl⟩
  · exact ⟨_, Try.func11, by decide, rfl⟩
  · exact ⟨_, Try.func12, by decide, rfl⟩
  · exact ⟨_, Try.func13, by decide, rfl⟩
  · exact ⟨_, Try.func14, by decide, rfl⟩
  · exact ⟨_, Try.func15, by decide, rfl⟩
  · exact ⟨_, Try.func16, by decide, rfl⟩
  · exact ⟨_, Try.func17, by decide, rfl⟩
  · exact ⟨_, Try.func18, by decide, rfl⟩
  · exact ⟨_, Try.func19, by decide, rfl⟩
  · exact ⟨_, Try.func20, by decide, rfl⟩
  · exact ⟨_, Try.func21, by decide, rfl⟩
  · exact ⟨_, Try.func22, by decide, rfl⟩
  · exact ⟨_, Try.func23, by decide, rfl⟩
  · exact ⟨_, Try.func24, by decide, rfl⟩
  · exact ⟨_, Try.func25, by decide, rfl⟩
  · exact ⟨_, Try.func27, by decide, rfl⟩
  · exact ⟨_, Try.func28, by decide, rfl⟩
  · exact ⟨_, Try.func29, by decide, rfl⟩
  · exact ⟨_, Try.func30, by decide, rfl⟩
  · exact ⟨_, Try.func31, by decide, rfl⟩
  · exact ⟨_, Try.func32, by decide, rfl⟩
  · exact ⟨_, Try.func33, by decide, rfl⟩
  · exact ⟨_, Try.func34, by decide, rfl⟩
  · exact ⟨_, Try.func35, by decide, rfl⟩
  · exact ⟨_, Try.func36, by decide, rfl⟩
  · exact ⟨_, Try.func37, by decide, rfl⟩
  · exact ⟨_, Try.func38, by decide, rfl⟩
  · exact ⟨_, Try.func39, by decide, rfl⟩
  · exact ⟨_, Try.func40, by decide, rfl⟩
  · exact ⟨_, Try.func41, by decide, rfl⟩
  · exact ⟨_, Try.func42, by decide, rfl⟩
  · exact ⟨_, Try.func43, by decide, rfl⟩
  · exact ⟨_, Try.func44, by decide, rfl⟩
  · exact ⟨_, Try.func45, by decide, rfl⟩
  · exact ⟨_, Try.func46, by decide, rfl⟩
theorem mixOk : Try.prog.follows .mixedOrders = true := by kernel_rfl
def bodyOf (fn : Func) : Code := match fn.body with
  | some c => c
  | none => .skip
end Go.Proofs.Ythpbiliajcameaa
