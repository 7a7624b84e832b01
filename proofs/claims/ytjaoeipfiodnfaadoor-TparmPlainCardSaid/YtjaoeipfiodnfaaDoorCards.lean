/-
  DERIVED. GIVEN WITH THE SEED: THE CARDS: each row of YtjaoeipfiodnfaaDoorRows.lean that lists a variable, with what it lists TIED to the program's text (the seventh form; the later family's looks); each row that meets fmt, with fmt's text TOLD by the authors' own Lean function (tested against real Go, not proved from fmt's source: count such statements apart). THE CARD IS WHAT COUNTS. Prove the row's statement (the work); the ties are given (YtjaoeipfiodnfaaDoorTie.lean); close each card by the builder's one call (the guide's Derived/Test/ToyasCard.lean, 'card_holds'). Laid BY PROGRAM, IN A SANDBOX (cutbox-door.mjs). By AI agents, Wed Nov 11 2026. No macro, syntax, notation, axiom, sorry.
-/
import Derived.Test.YtjaoeipfiodnfaaDoorRows
import GoSem.ClaimSeven
namespace Go.Proofs.YtjaoeipfiodnfaaDoor
namespace Rows

/-- THE TIED CARD OF 'lanyardlaw04.TparmPlain'. -/
def tparmPlainCard : Claim7 := { stood := { row := tparmPlainRow, standIns := [], harness := (true, "9fee7fd20c70136198cb5aa060e3cd09a2668cd7121eea19f415aef0d467a83b"), looks := false }, kinds := [], alts := [], laidByText := true, laidKinds := [.data, .data, .data, .data, .pinned], laidTests := true, laidLooks := .later }
def TparmPlainCardSaid : Prop := Claim7.holds Tryd.pinned (.plain (OpenSpec.ofChange tparmPlainSpec)) tparmPlainCard

/-- THE TIED CARD OF 'lanyardlaw04.TparmChooses'. -/
def tparmChoosesCard : Claim7 := { stood := { row := tparmChoosesRow, standIns := [], harness := (true, "9fee7fd20c70136198cb5aa060e3cd09a2668cd7121eea19f415aef0d467a83b"), looks := false }, kinds := [], alts := [], laidByText := true, laidKinds := [.data, .data, .data, .data, .pinned], laidTests := true, laidLooks := .later }
def TparmChoosesCardSaid : Prop := Claim7.holds Tryd.pinned (.plain (OpenSpec.ofChange tparmChoosesSpec)) tparmChoosesCard

/-- THE TIED CARD OF 'lanyardlaw04.TparmNumbers'. -/
def tparmNumbersCard : Claim7 := { stood := { row := tparmNumbersRow, standIns := [], harness := (true, "9fee7fd20c70136198cb5aa060e3cd09a2668cd7121eea19f415aef0d467a83b"), looks := false }, kinds := [], alts := [], laidByText := true, laidKinds := [.data, .data, .data], laidTests := true, laidLooks := .later }
def TparmNumbersCardSaid : Prop := Claim7.holds Tryd.pinned (.plain (OpenSpec.ofChange tparmNumbersSpec)) tparmNumbersCard

/-- THE TIED CARD OF 'lanyardlaw04.TparmSums'. -/
def tparmSumsCard : Claim7 := { stood := { row := tparmSumsRow, standIns := [], harness := (true, "9fee7fd20c70136198cb5aa060e3cd09a2668cd7121eea19f415aef0d467a83b"), looks := false }, kinds := [], alts := [], laidByText := true, laidKinds := [.data, .data, .data], laidTests := true, laidLooks := .later }
def TparmSumsCardSaid : Prop := Claim7.holds Tryd.pinned (.plain (OpenSpec.ofChange tparmSumsSpec)) tparmSumsCard

/-- THE TIED CARD OF 'lanyardlaw04.TparmVars'. -/
def tparmVarsCard : Claim7 := { stood := { row := tparmVarsRow, standIns := [], harness := (true, "9fee7fd20c70136198cb5aa060e3cd09a2668cd7121eea19f415aef0d467a83b"), looks := false }, kinds := [], alts := [], laidByText := true, laidKinds := [.data, .data, .data], laidTests := true, laidLooks := .later }
def TparmVarsCardSaid : Prop := Claim7.holds Tryd.pinned (.plain (OpenSpec.ofChange tparmVarsSpec)) tparmVarsCard

/-- THE TIED CARD OF 'lanyardlaw04.TparmNone'. -/
def tparmNoneCard : Claim7 := { stood := { row := tparmNoneRow, standIns := [], harness := (true, "9fee7fd20c70136198cb5aa060e3cd09a2668cd7121eea19f415aef0d467a83b"), looks := false }, kinds := [], alts := [], laidByText := true, laidKinds := [.data, .data, .data], laidTests := true, laidLooks := .later }
def TparmNoneCardSaid : Prop := Claim7.holds Tryd.pinned (.plain (OpenSpec.ofChange tparmNoneSpec)) tparmNoneCard

/-- THE SECOND FORM's CARD OF 'lanyardlaw04.TparmPlain'. -/
def tparmPlainUptoCard : Claim7 := { stood := { row := tparmPlainUptoRow, standIns := [], harness := (true, "9fee7fd20c70136198cb5aa060e3cd09a2668cd7121eea19f415aef0d467a83b"), looks := false }, kinds := [], alts := [], laidByText := true, laidKinds := [.data, .data, .data, .data, .pinned], laidTests := true, laidLooks := .later }
def TparmPlainUptoCardSaid : Prop := Claim7.holds Tryd.pinned (.plain (OpenSpec.upto tparmPlainSpec)) tparmPlainUptoCard

/-- THE SECOND FORM's CARD OF 'lanyardlaw04.TparmChooses'. -/
def tparmChoosesUptoCard : Claim7 := { stood := { row := tparmChoosesUptoRow, standIns := [], harness := (true, "9fee7fd20c70136198cb5aa060e3cd09a2668cd7121eea19f415aef0d467a83b"), looks := false }, kinds := [], alts := [], laidByText := true, laidKinds := [.data, .data, .data, .data, .pinned], laidTests := true, laidLooks := .later }
def TparmChoosesUptoCardSaid : Prop := Claim7.holds Tryd.pinned (.plain (OpenSpec.upto tparmChoosesSpec)) tparmChoosesUptoCard

/-- THE SECOND FORM's CARD OF 'lanyardlaw04.TparmNumbers'. -/
def tparmNumbersUptoCard : Claim7 := { stood := { row := tparmNumbersUptoRow, standIns := [], harness := (true, "9fee7fd20c70136198cb5aa060e3cd09a2668cd7121eea19f415aef0d467a83b"), looks := false }, kinds := [], alts := [], laidByText := true, laidKinds := [.data, .data, .data], laidTests := true, laidLooks := .later }
def TparmNumbersUptoCardSaid : Prop := Claim7.holds Tryd.pinned (.plain (OpenSpec.upto tparmNumbersSpec)) tparmNumbersUptoCard

/-- THE SECOND FORM's CARD OF 'lanyardlaw04.TparmSums'. -/
def tparmSumsUptoCard : Claim7 := { stood := { row := tparmSumsUptoRow, standIns := [], harness := (true, "9fee7fd20c70136198cb5aa060e3cd09a2668cd7121eea19f415aef0d467a83b"), looks := false }, kinds := [], alts := [], laidByText := true, laidKinds := [.data, .data, .data], laidTests := true, laidLooks := .later }
def TparmSumsUptoCardSaid : Prop := Claim7.holds Tryd.pinned (.plain (OpenSpec.upto tparmSumsSpec)) tparmSumsUptoCard

/-- THE SECOND FORM's CARD OF 'lanyardlaw04.TparmVars'. -/
def tparmVarsUptoCard : Claim7 := { stood := { row := tparmVarsUptoRow, standIns := [], harness := (true, "9fee7fd20c70136198cb5aa060e3cd09a2668cd7121eea19f415aef0d467a83b"), looks := false }, kinds := [], alts := [], laidByText := true, laidKinds := [.data, .data, .data], laidTests := true, laidLooks := .later }
def TparmVarsUptoCardSaid : Prop := Claim7.holds Tryd.pinned (.plain (OpenSpec.upto tparmVarsSpec)) tparmVarsUptoCard

/-- THE SECOND FORM's CARD OF 'lanyardlaw04.TparmNone'. -/
def tparmNoneUptoCard : Claim7 := { stood := { row := tparmNoneUptoRow, standIns := [], harness := (true, "9fee7fd20c70136198cb5aa060e3cd09a2668cd7121eea19f415aef0d467a83b"), looks := false }, kinds := [], alts := [], laidByText := true, laidKinds := [.data, .data, .data], laidTests := true, laidLooks := .later }
def TparmNoneUptoCardSaid : Prop := Claim7.holds Tryd.pinned (.plain (OpenSpec.upto tparmNoneSpec)) tparmNoneUptoCard
end Rows
end Go.Proofs.YtjaoeipfiodnfaaDoor
