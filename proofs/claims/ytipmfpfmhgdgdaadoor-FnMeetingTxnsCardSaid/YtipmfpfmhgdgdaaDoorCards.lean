/-
  DERIVED. GIVEN WITH THE SEED: THE CARDS: each row of YtipmfpfmhgdgdaaDoorRows.lean that lists a variable, with what it lists TIED to the program's text (the seventh form; the later family's looks); each row that meets fmt, with fmt's text TOLD by the authors' own Lean function (tested against real Go, not proved from fmt's source: count such statements apart). THE CARD IS WHAT COUNTS. Prove the row's statement (the work); the ties are given (YtipmfpfmhgdgdaaDoorTie.lean); close each card by the builder's one call (the guide's Derived/Test/ToyasCard.lean, 'card_holds'). Laid BY PROGRAM, IN A SANDBOX (cutbox-door.mjs). By AI agents, Wed Nov 11 2026. No macro, syntax, notation, axiom, sorry.
-/
import Derived.Test.YtipmfpfmhgdgdaaDoorRows
import GoSem.ClaimSeven
namespace Go.Proofs.YtipmfpfmhgdgdaaDoor
namespace Rows

/-- THE TIED CARD OF 'laws.FnOrderOfLists'. -/
def fnOrderOfListsCard : Claim7 := { stood := { row := fnOrderOfListsRow, standIns := [], harness := (true, "42d3d691c0ee96e61846ed7f6b3080bd1252312b09fb90254e0c4ea456bd10f9"), looks := false }, kinds := [], alts := [], laidByText := true, laidKinds := [.data, .data, .data], laidTests := true, laidLooks := .later }
def FnOrderOfListsCardSaid : Prop := Claim7.holds Tryd.pinned (.plain (OpenSpec.ofChange fnOrderOfListsSpec)) fnOrderOfListsCard

/-- THE TIED CARD OF 'laws.FnMeetingTxns'. -/
def fnMeetingTxnsCard : Claim7 := { stood := { row := fnMeetingTxnsRow, standIns := [], harness := (true, "42d3d691c0ee96e61846ed7f6b3080bd1252312b09fb90254e0c4ea456bd10f9"), looks := false }, kinds := [], alts := [], laidByText := true, laidKinds := [.data, .data, .data], laidTests := true, laidLooks := .later }
def FnMeetingTxnsCardSaid : Prop := Claim7.holds Tryd.pinned (.plain (OpenSpec.ofChange fnMeetingTxnsSpec)) fnMeetingTxnsCard

/-- THE SECOND FORM's CARD OF 'laws.FnOrderOfLists'. -/
def fnOrderOfListsUptoCard : Claim7 := { stood := { row := fnOrderOfListsUptoRow, standIns := [], harness := (true, "42d3d691c0ee96e61846ed7f6b3080bd1252312b09fb90254e0c4ea456bd10f9"), looks := false }, kinds := [], alts := [], laidByText := true, laidKinds := [.data, .data, .data], laidTests := true, laidLooks := .later }
def FnOrderOfListsUptoCardSaid : Prop := Claim7.holds Tryd.pinned (.plain (OpenSpec.upto fnOrderOfListsSpec)) fnOrderOfListsUptoCard

/-- THE SECOND FORM's CARD OF 'laws.FnMeetingTxns'. -/
def fnMeetingTxnsUptoCard : Claim7 := { stood := { row := fnMeetingTxnsUptoRow, standIns := [], harness := (true, "42d3d691c0ee96e61846ed7f6b3080bd1252312b09fb90254e0c4ea456bd10f9"), looks := false }, kinds := [], alts := [], laidByText := true, laidKinds := [.data, .data, .data], laidTests := true, laidLooks := .later }
def FnMeetingTxnsUptoCardSaid : Prop := Claim7.holds Tryd.pinned (.plain (OpenSpec.upto fnMeetingTxnsSpec)) fnMeetingTxnsUptoCard
end Rows
end Go.Proofs.YtipmfpfmhgdgdaaDoor
