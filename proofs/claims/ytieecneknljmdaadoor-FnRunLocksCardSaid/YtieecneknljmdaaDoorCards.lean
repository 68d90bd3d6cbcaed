/-
  DERIVED. GIVEN WITH THE SEED: THE CARDS: each row of YtieecneknljmdaaDoorRows.lean that lists a variable, with what it lists TIED to the program's text (the seventh form; the later family's looks); each row that meets fmt, with fmt's text TOLD by the authors' own Lean function (tested against real Go, not proved from fmt's source: count such statements apart). THE CARD IS WHAT COUNTS. Prove the row's statement (the work); the ties are given (YtieecneknljmdaaDoorTie.lean); close each card by the builder's one call (the guide's Derived/Test/ToyasCard.lean, 'card_holds'). Laid BY PROGRAM, IN A SANDBOX (cutbox-door.mjs). By AI agents, Wed Nov 11 2026. No macro, syntax, notation, axiom, sorry.
-/
import Derived.Test.YtieecneknljmdaaDoorRows
import GoSem.ClaimSeven
namespace Go.Proofs.YtieecneknljmdaaDoor
namespace Rows

/-- THE TIED CARD OF 'laws.FnCountSerial'. -/
def fnCountSerialCard : Claim7 := { stood := { row := fnCountSerialRow, standIns := [], harness := (true, "cb3fa9a0bf3704d2c89c6b08fba39eb4e8d16dbf207869377574cbb06caf877a"), looks := false }, kinds := [], alts := [], laidByText := true, laidKinds := [.data, .data, .data], laidTests := true, laidLooks := .later }
def FnCountSerialCardSaid : Prop := Claim7.holds Tryd.pinned (.plain (OpenSpec.ofChange fnCountSerialSpec)) fnCountSerialCard

/-- THE TIED CARD OF 'laws.FnRunLocks'. -/
def fnRunLocksCard : Claim7 := { stood := { row := fnRunLocksRow, standIns := [], harness := (true, "cb3fa9a0bf3704d2c89c6b08fba39eb4e8d16dbf207869377574cbb06caf877a"), looks := false }, kinds := [], alts := [], laidByText := true, laidKinds := [.data, .data, .data], laidTests := true, laidLooks := .later }
def FnRunLocksCardSaid : Prop := Claim7.holds Tryd.pinned (.plain (OpenSpec.ofChange fnRunLocksSpec)) fnRunLocksCard

/-- THE SECOND FORM's CARD OF 'laws.FnCountSerial'. -/
def fnCountSerialUptoCard : Claim7 := { stood := { row := fnCountSerialUptoRow, standIns := [], harness := (true, "cb3fa9a0bf3704d2c89c6b08fba39eb4e8d16dbf207869377574cbb06caf877a"), looks := false }, kinds := [], alts := [], laidByText := true, laidKinds := [.data, .data, .data], laidTests := true, laidLooks := .later }
def FnCountSerialUptoCardSaid : Prop := Claim7.holds Tryd.pinned (.plain (OpenSpec.upto fnCountSerialSpec)) fnCountSerialUptoCard

/-- THE SECOND FORM's CARD OF 'laws.FnRunLocks'. -/
def fnRunLocksUptoCard : Claim7 := { stood := { row := fnRunLocksUptoRow, standIns := [], harness := (true, "cb3fa9a0bf3704d2c89c6b08fba39eb4e8d16dbf207869377574cbb06caf877a"), looks := false }, kinds := [], alts := [], laidByText := true, laidKinds := [.data, .data, .data], laidTests := true, laidLooks := .later }
def FnRunLocksUptoCardSaid : Prop := Claim7.holds Tryd.pinned (.plain (OpenSpec.upto fnRunLocksSpec)) fnRunLocksUptoCard
end Rows
end Go.Proofs.YtieecneknljmdaaDoor
