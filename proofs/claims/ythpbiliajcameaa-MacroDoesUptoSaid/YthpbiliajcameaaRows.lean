/-
  No cell of these rows narrows 'for every input' (looked for: loops, veiled, ifaces, maps, wideKeys, modest, calm, conditions, laid).
  DERIVED. THE GIVEN ROWS OF THIS SEAT. 3 by the template 'for every input the law returns true; each argument reads behind the call as it read before'; 0 by the template 'total and deterministic' (their statements: YthpbiliajcameaaTotals.lean).
  GIVEN WITH THE SEED: the statements are not yours to turn. If you find one false, say at which input.
  Laid BY PROGRAM, IN A SANDBOX (cutbox-rows.mjs): the forced cells as the released guide's own fill.sh prints them over the translation 5c335d087c9931b7… (all of the seat's roots in one cut). By AI agents, Wed Nov 11 2026. No macro, syntax, notation, axiom, sorry.
-/
import Derived.Test.YthpbiliajcameaaChecked
import GoSem.Claim
import GoSem.ClaimJoined
import GoSem.ClaimMapViews
import Derived.JoinedTies
import Derived.KernelRfl
namespace Go.Proofs.Ythpbiliajcameaa
/- THE CELL 'sum', in the pinned program and in every row, IS THE sha256 OF THE DUMP (.gsa) THAT YthpbiliajcameaaProg.lean LOADS. Nothing in Lean hashes anything: it is a label: what it is worth is what the hold of that sum in a sandbox is worth. -/
noncomputable def Try.pinned : Pinned := { name := "ythpbiliajcameaa", sum := "5c335d087c9931b7df8209dad90177b4d49c9851554cf0e4d0aba910cf223ec8", checked := Try.checked }
namespace Rows
def none {H : Type} : Left H := { results := [], args := [] }

/-- 'lanyardlaw22.MacroOrder': WHATEVER THE INPUT: true; the input reads as it did. -/
def macroOrderSpec : ChangeSpec := { name := "macroOrder", fn := fun _ => fun
  | [d1, d2, d3] => { results := [.lit (.bool true)], args := [d1, d2, d3] }
  | _ => none }
def macroOrderRow : OpenClaim := { program := "ythpbiliajcameaa", sum := "5c335d087c9931b7df8209dad90177b4d49c9851554cf0e4d0aba910cf223ec8", func := "lanyard/lanyardlaw22.MacroOrder", spec := "macroOrder", apart := false }
def MacroOrderSaid : Prop := macroOrderRow.holds Try.pinned (OpenSpec.ofChange macroOrderSpec)

/-- ITS FALSE NEIGHBOUR: 'it returns false'. Refute it at one input. -/
def macroOrderWrong : ChangeSpec := { name := "macroOrder", fn := fun _ => fun
  | [d1, d2, d3] => { results := [.lit (.bool false)], args := [d1, d2, d3] }
  | _ => none }
def MacroOrderWrongFalsely : Prop := macroOrderRow.holds Try.pinned (OpenSpec.ofChange macroOrderWrong)

/-- 'lanyardlaw22.MacroReplays': WHATEVER THE INPUT: true; the input reads as it did. -/
def macroReplaysSpec : ChangeSpec := { name := "macroReplays", fn := fun _ => fun
  | [d] => { results := [.lit (.bool true)], args := [d] }
  | _ => none }
def macroReplaysRow : OpenClaim := { program := "ythpbiliajcameaa", sum := "5c335d087c9931b7df8209dad90177b4d49c9851554cf0e4d0aba910cf223ec8", func := "lanyard/lanyardlaw22.MacroReplays", spec := "macroReplays", inPlace := ["internal/bytealg.MakeNoZero"], apart := false }
def MacroReplaysSaid : Prop := macroReplaysRow.holds Try.pinned (OpenSpec.ofChange macroReplaysSpec)

/-- ITS FALSE NEIGHBOUR: 'it returns false'. Refute it at one input. -/
def macroReplaysWrong : ChangeSpec := { name := "macroReplays", fn := fun _ => fun
  | [d] => { results := [.lit (.bool false)], args := [d] }
  | _ => none }
def MacroReplaysWrongFalsely : Prop := macroReplaysRow.holds Try.pinned (OpenSpec.ofChange macroReplaysWrong)

/-- 'lanyardlaw22.MacroDoes': WHATEVER THE INPUT: true; the input reads as it did. -/
def macroDoesSpec : ChangeSpec := { name := "macroDoes", fn := fun _ => fun
  | [d] => { results := [.lit (.bool true)], args := [d] }
  | _ => none }
def macroDoesRow : OpenClaim := { program := "ythpbiliajcameaa", sum := "5c335d087c9931b7df8209dad90177b4d49c9851554cf0e4d0aba910cf223ec8", func := "lanyard/lanyardlaw22.MacroDoes", spec := "macroDoes", apart := false }
def MacroDoesSaid : Prop := macroDoesRow.holds Try.pinned (OpenSpec.ofChange macroDoesSpec)

/-- ITS FALSE NEIGHBOUR: 'it returns false'. Refute it at one input. -/
def macroDoesWrong : ChangeSpec := { name := "macroDoes", fn := fun _ => fun
  | [d] => { results := [.lit (.bool false)], args := [d] }
  | _ => none }
def MacroDoesWrongFalsely : Prop := macroDoesRow.holds Try.pinned (OpenSpec.ofChange macroDoesWrong)

/- THE SECOND FORM. 'bulk': how many values and letters a reading holds, each counted each time it is reached (what is shared counts as often as it is met; a slice's spare places count too). A statement '..UptoSaid' is the law's where the arguments, and the package variables that the reading takes, are together of bulk at most 1048576: NARROWER than '..Said'. Prove '..Said' where nothing that the law and all that it calls make is longer than what came in: it says more and counts as full. Else prove '..UptoSaid'. A law counts once. -/
mutual
def uptoBulk {H : Type} : DataW H → Nat
  | .lit (.string bytes) => bytes.length + 1
  | .lit _ => 1
  | .nil => 1
  | .ptr d => uptoBulk d + 1
  | .slice elems spare => uptoBulkAll elems + uptoBulkAll spare + 1
  | .agg parts => uptoBulkAll parts + 1
  | .iface _ d => uptoBulk d + 1
  | .map entries => uptoBulkEntries entries + 1
  | .held _ => 1
def uptoBulkAll {H : Type} : List (DataW H) → Nat
  | [] => 0
  | d :: r => uptoBulk d + uptoBulkAll r
def uptoBulkEntries {H : Type} : List (Lit × DataW H) → Nat
  | [] => 0
  | x :: r => uptoBulkEntry x + uptoBulkEntries r
def uptoBulkEntry {H : Type} : Lit × DataW H → Nat
  | (.string bytes, d) => bytes.length + uptoBulk d + 1
  | (_, d) => uptoBulk d + 1
 end
def uptoSmall : (H : Type) → List (DataW H) → Bool := fun _ ds => decide (uptoBulkAll ds ≤ 1048576)
def OpenSpec.upto (s : _root_.Go.ChangeSpec) : _root_.Go.OpenSpec := { _root_.Go.OpenSpec.ofChange s with cond := some uptoSmall }

/-- 'lanyardlaw22.MacroOrder', WHERE WHAT IT READS IS OF BULK AT MOST 1048576: true; the input reads as it did. -/
def macroOrderUptoRow : OpenClaim := { program := "ythpbiliajcameaa", sum := "5c335d087c9931b7df8209dad90177b4d49c9851554cf0e4d0aba910cf223ec8", func := "lanyard/lanyardlaw22.MacroOrder", spec := "macroOrder", apart := false, narrowed := true }
def MacroOrderUptoSaid : Prop := macroOrderUptoRow.holds Try.pinned (OpenSpec.upto macroOrderSpec)

/-- 'lanyardlaw22.MacroReplays', WHERE WHAT IT READS IS OF BULK AT MOST 1048576: true; the input reads as it did. -/
def macroReplaysUptoRow : OpenClaim := { program := "ythpbiliajcameaa", sum := "5c335d087c9931b7df8209dad90177b4d49c9851554cf0e4d0aba910cf223ec8", func := "lanyard/lanyardlaw22.MacroReplays", spec := "macroReplays", inPlace := ["internal/bytealg.MakeNoZero"], apart := false, narrowed := true }
def MacroReplaysUptoSaid : Prop := macroReplaysUptoRow.holds Try.pinned (OpenSpec.upto macroReplaysSpec)

/-- 'lanyardlaw22.MacroDoes', WHERE WHAT IT READS IS OF BULK AT MOST 1048576: true; the input reads as it did. -/
def macroDoesUptoRow : OpenClaim := { program := "ythpbiliajcameaa", sum := "5c335d087c9931b7df8209dad90177b4d49c9851554cf0e4d0aba910cf223ec8", func := "lanyard/lanyardlaw22.MacroDoes", spec := "macroDoes", apart := false, narrowed := true }
def MacroDoesUptoSaid : Prop := macroDoesUptoRow.holds Try.pinned (OpenSpec.upto macroDoesSpec)

end Rows
end Go.Proofs.Ythpbiliajcameaa
