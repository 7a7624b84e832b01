import Derived.Test.YtjaoeipfiodnfaaDoorFwOps2
import Derived.ProofKit
import Derived.OpenShut
import Derived.ShutString
import Derived.ChangeOld
import Derived.SizedLaws
import Derived.Carry
namespace Go.Fw
open Go.RowKit Go.ChangeShapes Go.WideShapes Go.ChangeAt
/-- A row of numbers of one kind that came in. -/
def IsRow (k : IntKind) (w : World) (a : Option Addr) (len cap : Nat) (zs : List Int) : Prop :=
  (a = none ∧ len = 0 ∧ cap = 0 ∧ zs = []) ∨
  ∃ x, a = some x ∧ len ≤ cap ∧ cap ≤ maxLen ∧ zs.length = cap ∧ (∀ i, i < zs.length → w.cell? (x.add i) = some (.int k (zs.getD i 0))) ∧ ∀ n ∈ zs, (Lit.int k n).wf = true
theorem mk_of_cell {w : World} {x : Addr} {v : Value} (h : w.cell? x = some v) : x = ⟨x.block, x.off, none⟩ := by
  obtain ⟨b, o, s⟩ := x
  cases s with
  | none => rfl
  | some s =>
    unfold World.cell? at h
    split at h
    · simp at h
    · cases h
theorem IsRow.rd {k : IntKind} {w : World} {a : Option Addr} {len cap : Nat} {zs : List Int} (h : IsRow k w a len cap zs) : Rd w w.heap.size 1 (.slice a len cap) len ((zs.take len).map (Value.int k)) := by
  rcases h with ⟨rfl, rfl, rfl, rfl⟩ | ⟨x, rfl, h1, h2, h3, h4, h5⟩
  · exact ⟨by simp, none, 0, rfl, Nat.le_refl _, Nat.zero_le _, fun h => absurd h (by omega), fun b off h => by cases h⟩
  · refine ⟨by simp; omega, some x, cap, rfl, h1, h2, fun hn => ?_, fun b off hA j u hu => ?_⟩
    · have hc := h4 0 (by omega)
      have hx0 : x.add 0 = x := by simp [Addr.add]
      rw [hx0] at hc
      have hx := mk_of_cell hc
      exact ⟨x.block, x.off, by rw [← hx], World.block_lt_of_cell? w x hc⟩
    · injection hA with hA
      subst hA
      have hlt := (List.getElem?_eq_some_iff.1 hu).1
      simp only [List.length_map, List.length_take] at hlt
      have hc := h4 j (by omega)
      rw [add_mk] at hc
      rw [List.getElem?_map, List.getElem?_take_of_lt (by omega)] at hu
      rw [hc, ← hu, List.getD_eq_getElem?_getD, List.getElem?_eq_getElem (by omega)]
      rfl
end Go.Fw
