/-
  DERIVED. GIVEN WITH THE SEED: THE CARDS: each row of YtefopnkicllpeaaDoorRows.lean that lists a variable, with what it lists TIED to the program's text (the seventh form; the later family's looks); each row that meets fmt, with fmt's text TOLD by the authors' own Lean function (tested against real Go, not proved from fmt's source: count such statements apart). THE CARD IS WHAT COUNTS. Prove the row's statement (the work); the ties are given (YtefopnkicllpeaaDoorTie.lean); close each card by the builder's one call (the guide's Derived/Test/ToyasCard.lean, 'card_holds'). Laid BY PROGRAM, IN A SANDBOX (cutbox-door.mjs). By AI agents, Wed Nov 11 2026. No macro, syntax, notation, axiom, sorry.
-/
import Derived.Test.YtefopnkicllpeaaDoorRows
import GoSem.ClaimSeven
namespace Go.Proofs.YtefopnkicllpeaaDoor
namespace Rows

/-- THE TIED CARD OF 'laws.FnExactReadPlan'. -/
def fnExactReadPlanCard : Claim7 := { stood := { row := fnExactReadPlanRow, standIns := [], harness := (true, "9a6dbd738c50d5d03bbe1b644f46545995e92737086977a0fec1e8a67b5f0af3"), looks := true }, kinds := [], alts := [], laidByText := true, laidKinds := [.data, .data, .data, .data, .sentinel, .sentinel, .pinned], laidTests := true, laidLooks := .later }
def FnExactReadPlanCardSaid : Prop := Claim7.holds Tryd.pinned (.plain (OpenSpec.ofChange fnExactReadPlanSpec)) fnExactReadPlanCard

/-- THE TIED CARD OF 'laws.FnReadPlan'. -/
def fnReadPlanCard : Claim7 := { stood := { row := fnReadPlanRow, standIns := [], harness := (true, "9a6dbd738c50d5d03bbe1b644f46545995e92737086977a0fec1e8a67b5f0af3"), looks := true }, kinds := [], alts := [], laidByText := true, laidKinds := [.data, .data, .data, .data, .sentinel, .sentinel, .pinned], laidTests := true, laidLooks := .later }
def FnReadPlanCardSaid : Prop := Claim7.holds Tryd.pinned (.plain (OpenSpec.ofChange fnReadPlanSpec)) fnReadPlanCard

/-- THE TIED CARD OF 'laws.FnPlanText'. -/
def fnPlanTextCard : Claim7 := { stood := { row := fnPlanTextRow, standIns := [], harness := (true, "9a6dbd738c50d5d03bbe1b644f46545995e92737086977a0fec1e8a67b5f0af3"), looks := true }, kinds := [], alts := [], laidByText := true, laidKinds := [.data, .data, .data, .data, .sentinel, .sentinel, .pinned], laidTests := true, laidLooks := .later }
def FnPlanTextCardSaid : Prop := Claim7.holds Tryd.pinned (.plain (OpenSpec.ofChange fnPlanTextSpec)) fnPlanTextCard

/-- THE SECOND FORM's CARD OF 'laws.FnExactReadPlan'. -/
def fnExactReadPlanUptoCard : Claim7 := { stood := { row := fnExactReadPlanUptoRow, standIns := [], harness := (true, "9a6dbd738c50d5d03bbe1b644f46545995e92737086977a0fec1e8a67b5f0af3"), looks := true }, kinds := [], alts := [], laidByText := true, laidKinds := [.data, .data, .data, .data, .sentinel, .sentinel, .pinned], laidTests := true, laidLooks := .later }
def FnExactReadPlanUptoCardSaid : Prop := Claim7.holds Tryd.pinned (.plain (OpenSpec.upto fnExactReadPlanSpec)) fnExactReadPlanUptoCard

/-- THE SECOND FORM's CARD OF 'laws.FnReadPlan'. -/
def fnReadPlanUptoCard : Claim7 := { stood := { row := fnReadPlanUptoRow, standIns := [], harness := (true, "9a6dbd738c50d5d03bbe1b644f46545995e92737086977a0fec1e8a67b5f0af3"), looks := true }, kinds := [], alts := [], laidByText := true, laidKinds := [.data, .data, .data, .data, .sentinel, .sentinel, .pinned], laidTests := true, laidLooks := .later }
def FnReadPlanUptoCardSaid : Prop := Claim7.holds Tryd.pinned (.plain (OpenSpec.upto fnReadPlanSpec)) fnReadPlanUptoCard

/-- THE SECOND FORM's CARD OF 'laws.FnPlanText'. -/
def fnPlanTextUptoCard : Claim7 := { stood := { row := fnPlanTextUptoRow, standIns := [], harness := (true, "9a6dbd738c50d5d03bbe1b644f46545995e92737086977a0fec1e8a67b5f0af3"), looks := true }, kinds := [], alts := [], laidByText := true, laidKinds := [.data, .data, .data, .data, .sentinel, .sentinel, .pinned], laidTests := true, laidLooks := .later }
def FnPlanTextUptoCardSaid : Prop := Claim7.holds Tryd.pinned (.plain (OpenSpec.upto fnPlanTextSpec)) fnPlanTextUptoCard
end Rows
end Go.Proofs.YtefopnkicllpeaaDoor
