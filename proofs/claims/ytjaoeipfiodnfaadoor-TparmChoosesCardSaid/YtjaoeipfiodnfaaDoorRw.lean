import Derived.Test.YtjaoeipfiodnfaaDoorRows
import Derived.Test.YtjaoeipfiodnfaaDoorBG
import Derived.Test.YtjaoeipfiodnfaaDoorFwRow
import Derived.Deep.Matrix
import Derived.Deep.DeepHandedRow
import Derived.Deep.DeepWitnessRowRef
import Derived.ProofKit
import Derived.SizedLaws
import Derived.Lib.LaidU8
import Derived.Lib.LaidIn
set_option linter.unusedVariables false
namespace Go.Proofs.YtjaoeipfiodnfaaDoor
open Go Go.Fw Go.Proofs Go.RowKit Go.ChangeShapes Go.WideShapes Go.ChangeAt Go.Lib
theorem own : ownKnob Tryd.prog.godebug = none := by kernel_rfl
theorem laidOut : laidOutB Tryd.prog = true := by kernel_rfl
/-! ### A world that lays the tables -/
noncomputable def laidWorld (os : Os) : World :=
  let w0 := World.holding Tryd.prog os ⟨#[], #[], []⟩
  let put (h : Array Obj) (g : Nat) (cs : Array Value) : Array Obj := h.modify g fun
    | .cells _ t frozen => .cells cs t frozen
    | o => o
  let h1 := put w0.heap 2 (Lib.firstTab.map fun z => Value.int .u8 z).toArray
  let h2 := put h1 3 ((List.range 16).flatMap fun i => [Value.int .u8 (Lib.accLo i), Value.int .u8 (Lib.accHi i)]).toArray
  let h3 := put h2 0 (Lib.pow10Tab.map fun z => Value.int .u64 z).toArray
  let h4 := put h3 4 (Lib.deBruijn32tab.map fun z => Value.int .u8 (Int.ofNat z)).toArray
  let h5 := put h4 5 (Lib.deBruijn64tab.map fun z => Value.int .u8 (Int.ofNat z)).toArray
  { w0 with heap := h5 }
theorem first_eq : Rows.laid_unicode_utf8_first = Lib.firstData := by kernel_rfl
theorem accept_eq : Rows.laid_unicode_utf8_acceptRanges (H := Unit) = Lib.acceptData := by kernel_rfl
theorem pow_eq : Rows.laid_internal_strconv_uint64pow10 (H := Unit) = Lib.tabData .u64 Lib.pow10Tab := by kernel_rfl
theorem db64_eq : Rows.laid_math_bits_deBruijn64tab (H := Unit) = Lib.tabData .u8 (Lib.deBruijn64tab.map Int.ofNat) := by kernel_rfl
abbrev theLaid3 : List (String × DataW Unit) := [("math/bits.deBruijn32tab", Rows.laid_math_bits_deBruijn32tab), ("math/bits.deBruijn64tab", Rows.laid_math_bits_deBruijn64tab), ("internal/strconv.uint64pow10", Rows.laid_internal_strconv_uint64pow10)]
abbrev theLaid5 : List (String × DataW Unit) := [("math/bits.deBruijn32tab", Rows.laid_math_bits_deBruijn32tab), ("math/bits.deBruijn64tab", Rows.laid_math_bits_deBruijn64tab), ("internal/strconv.uint64pow10", Rows.laid_internal_strconv_uint64pow10), ("unicode/utf8.acceptRanges", Rows.laid_unicode_utf8_acceptRanges), ("unicode/utf8.first", Rows.laid_unicode_utf8_first)]
theorem laid_met3 (os : Os) (args : Array Value) : laidMet Tryd.prog theLaid3 ((laidWorld os).forCall (fun _ _ => 0) ⟨#[], args, []⟩).memory :=
  (LaidIn.of_run [4, 5, 0] 8 (by kernel_rfl) (by kernel_rfl) (by kernel_rfl) (by kernel_rfl)).met
theorem laid_met5 (os : Os) (args : Array Value) : laidMet Tryd.prog theLaid5 ((laidWorld os).forCall (fun _ _ => 0) ⟨#[], args, []⟩).memory :=
  (LaidIn.of_run [4, 5, 0, 3, 2] 8 (by kernel_rfl) (by kernel_rfl) (by kernel_rfl) (by kernel_rfl)).met
theorem tab_of_reads {W : World} {name : String} {k : IntKind} {zs : List Int} {g : Nat} {t e : TypeId} {n : Nat}
    (hg : Tryd.prog.globalNamed name = some g) (hty : (Tryd.prog.globals[g]?).map (·.type) = some t) (ht : Tryd.prog.underlying t = some (.array n e)) (he : Tryd.prog.underlying e = some (.int k)) (hce : Tryd.prog.cellsOf e = 1) (hct : Tryd.prog.cellsOf t = n)
    (h : VarReads Tryd.prog W name (tabData k zs)) : TabIs Tryd.prog W name k zs := by
  obtain ⟨g', t', cs, fuel, p, hg', ht', hvar, hd⟩ := h
  obtain rfl := Option.some.inj (hg.symm.trans hg')
  obtain rfl := Option.some.inj (hty.symm.trans ht')
  unfold TabIs
  rw [hvar, ← cells_of_tab ht he hce hct hd]
theorem gnd_of_laid {W : World} {l : List (String × DataW Unit)} (h : laidMet Tryd.prog l W) (m1 : ("math/bits.deBruijn64tab", Rows.laid_math_bits_deBruijn64tab) ∈ l) (m2 : ("internal/strconv.uint64pow10", Rows.laid_internal_strconv_uint64pow10) ∈ l) (h6 : 6 ≤ W.heap.size) : Gnd W := by
  have r1 := Lib.laidMet.reads h m1
  have r2 := Lib.laidMet.reads h m2
  rw [db64_eq] at r1
  rw [pow_eq] at r2
  exact ⟨h6, tab_of_reads (t := 137) (e := 39) (n := 20) g0 (by kernel_rfl) (by kernel_rfl) (by kernel_rfl) (by kernel_rfl) (by kernel_rfl) r2, tab_of_reads (t := 159) (e := 5) (n := 64) g5 (by kernel_rfl) (by kernel_rfl) (by kernel_rfl) (by kernel_rfl) (by kernel_rfl) r1⟩
theorem six_of_laid {W : World} {l : List (String × DataW Unit)} (h : laidMet Tryd.prog l W) (m1 : ("math/bits.deBruijn64tab", Rows.laid_math_bits_deBruijn64tab) ∈ l) : 6 ≤ W.heap.size := by
  have r1 := Lib.laidMet.reads h m1
  obtain ⟨g', t', cs, fuel, p, hg', ht', hvar, hd⟩ := r1
  unfold World.var? at hvar
  rw [g5, Option.bind_some] at hvar
  by_cases hs : 6 ≤ W.heap.size
  · exact hs
  · rw [Array.getElem?_eq_none (by omega)] at hvar
    cases hvar
theorem gnd3 {W : World} (h : laidMet Tryd.prog theLaid3 W) : Gnd W := gnd_of_laid h (.tail _ (.head _)) (.tail _ (.tail _ (.head _))) (six_of_laid h (.tail _ (.head _)))
theorem gnd5 {W : World} (h : laidMet Tryd.prog theLaid5 W) : Gnd W := gnd_of_laid h (.tail _ (.head _)) (.tail _ (.tail _ (.head _))) (six_of_laid h (.tail _ (.head _)))
#print axioms gnd3
end Go.Proofs.YtjaoeipfiodnfaaDoor
