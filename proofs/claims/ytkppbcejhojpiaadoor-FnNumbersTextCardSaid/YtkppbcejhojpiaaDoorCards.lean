/-
  DERIVED. GIVEN WITH THE SEED: THE CARDS: each row of YtkppbcejhojpiaaDoorRows.lean that lists a variable, with what it lists TIED to the program's text (the seventh form; the later family's looks); each row that meets fmt, with fmt's text TOLD by the authors' own Lean function (tested against real Go, not proved from fmt's source: count such statements apart). THE CARD IS WHAT COUNTS. Prove the row's statement (the work); the ties are given (YtkppbcejhojpiaaDoorTie.lean); close each card by the builder's one call (the guide's Derived/Test/ToyasCard.lean, 'card_holds'). Laid BY PROGRAM, IN A SANDBOX (cutbox-door.mjs). By AI agents, Wed Nov 11 2026. No macro, syntax, notation, axiom, sorry.
-/
import Derived.Test.YtkppbcejhojpiaaDoorRows
import GoSem.ClaimSeven
namespace Go.Proofs.YtkppbcejhojpiaaDoor
namespace Rows

/-- THE TIED CARD OF 'laws.FnExactNumbersText'. -/
def fnExactNumbersTextCard : Claim7 := { stood := { row := fnExactNumbersTextRow, standIns := [], harness := (true, "1dff20485dd9a25b366bc48a10f76cda73420e74273dbb118ba332ff977af7a0"), looks := false }, kinds := [], alts := [], laidByText := true, laidKinds := [.data, .data, .data], laidTests := true, laidLooks := .later }
def FnExactNumbersTextCardSaid : Prop := Claim7.holds Tryd.pinned (.plain (OpenSpec.ofChange fnExactNumbersTextSpec)) fnExactNumbersTextCard

/-- THE TIED CARD OF 'laws.FnNumbersText'. -/
def fnNumbersTextCard : Claim7 := { stood := { row := fnNumbersTextRow, standIns := [], harness := (true, "1dff20485dd9a25b366bc48a10f76cda73420e74273dbb118ba332ff977af7a0"), looks := false }, kinds := [], alts := [], laidByText := true, laidKinds := [.data, .data, .data], laidTests := true, laidLooks := .later }
def FnNumbersTextCardSaid : Prop := Claim7.holds Tryd.pinned (.plain (OpenSpec.ofChange fnNumbersTextSpec)) fnNumbersTextCard

/-- THE SECOND FORM's CARD OF 'laws.FnExactNumbersText'. -/
def fnExactNumbersTextUptoCard : Claim7 := { stood := { row := fnExactNumbersTextUptoRow, standIns := [], harness := (true, "1dff20485dd9a25b366bc48a10f76cda73420e74273dbb118ba332ff977af7a0"), looks := false }, kinds := [], alts := [], laidByText := true, laidKinds := [.data, .data, .data], laidTests := true, laidLooks := .later }
def FnExactNumbersTextUptoCardSaid : Prop := Claim7.holds Tryd.pinned (.plain (OpenSpec.upto fnExactNumbersTextSpec)) fnExactNumbersTextUptoCard

/-- THE SECOND FORM's CARD OF 'laws.FnNumbersText'. -/
def fnNumbersTextUptoCard : Claim7 := { stood := { row := fnNumbersTextUptoRow, standIns := [], harness := (true, "1dff20485dd9a25b366bc48a10f76cda73420e74273dbb118ba332ff977af7a0"), looks := false }, kinds := [], alts := [], laidByText := true, laidKinds := [.data, .data, .data], laidTests := true, laidLooks := .later }
def FnNumbersTextUptoCardSaid : Prop := Claim7.holds Tryd.pinned (.plain (OpenSpec.upto fnNumbersTextSpec)) fnNumbersTextUptoCard
end Rows
end Go.Proofs.YtkppbcejhojpiaaDoor
