/-
  DERIVED. GIVEN WITH THE SEED: THE CARDS: each row of YtjgjlcpnfiocfaaDoorRows.lean that lists a variable, with what it lists TIED to the program's text (the seventh form; the later family's looks); each row that meets fmt, with fmt's text TOLD by the authors' own Lean function (tested against real Go, not proved from fmt's source: count such statements apart). THE CARD IS WHAT COUNTS. Prove the row's statement (the work); the ties are given (YtjgjlcpnfiocfaaDoorTie.lean); close each card by the builder's one call (the guide's Derived/Test/ToyasCard.lean, 'card_holds'). Laid BY PROGRAM, IN A SANDBOX (cutbox-door.mjs). By AI agents, Wed Nov 11 2026. No macro, syntax, notation, axiom, sorry.
-/
import Derived.Test.YtjgjlcpnfiocfaaDoorRows
import GoSem.ClaimSeven
namespace Go.Proofs.YtjgjlcpnfiocfaaDoor
namespace Rows

/-- THE TIED CARD OF 'laws.FnLevelText'. -/
def fnLevelTextCard : Claim7 := { stood := { row := fnLevelTextRow, standIns := [], harness := (true, "f2c1c1767bf673cc075bf186ddbc47504e5f3e3506e78108f3e747c99c658025"), looks := false }, kinds := [], alts := [], laidByText := true, laidKinds := [.data, .data, .data], laidTests := true, laidLooks := .later }
def FnLevelTextCardSaid : Prop := Claim7.holds Tryd.pinned (.plain (OpenSpec.ofChange fnLevelTextSpec)) fnLevelTextCard

/-- THE TIED CARD OF 'laws.FnStampedValid'. -/
def fnStampedValidCard : Claim7 := { stood := { row := fnStampedValidRow, standIns := [], harness := (true, "f2c1c1767bf673cc075bf186ddbc47504e5f3e3506e78108f3e747c99c658025"), looks := false }, kinds := [], alts := [], laidByText := true, laidKinds := [.data, .data, .data], laidTests := true, laidLooks := .later }
def FnStampedValidCardSaid : Prop := Claim7.holds Tryd.pinned (.plain (OpenSpec.ofChange fnStampedValidSpec)) fnStampedValidCard

/-- THE TIED CARD OF 'laws.FnLaterStamped'. -/
def fnLaterStampedCard : Claim7 := { stood := { row := fnLaterStampedRow, standIns := [], harness := (true, "f2c1c1767bf673cc075bf186ddbc47504e5f3e3506e78108f3e747c99c658025"), looks := false }, kinds := [], alts := [], laidByText := true, laidKinds := [.data, .data, .data], laidTests := true, laidLooks := .later }
def FnLaterStampedCardSaid : Prop := Claim7.holds Tryd.pinned (.plain (OpenSpec.ofChange fnLaterStampedSpec)) fnLaterStampedCard

/-- THE TIED CARD OF 'laws.FnClockValid'. -/
def fnClockValidCard : Claim7 := { stood := { row := fnClockValidRow, standIns := [], harness := (true, "f2c1c1767bf673cc075bf186ddbc47504e5f3e3506e78108f3e747c99c658025"), looks := false }, kinds := [], alts := [], laidByText := true, laidKinds := [.data, .data, .data], laidTests := true, laidLooks := .later }
def FnClockValidCardSaid : Prop := Claim7.holds Tryd.pinned (.plain (OpenSpec.ofChange fnClockValidSpec)) fnClockValidCard

/-- THE TIED CARD OF 'laws.FnClockBefore'. -/
def fnClockBeforeCard : Claim7 := { stood := { row := fnClockBeforeRow, standIns := [], harness := (true, "f2c1c1767bf673cc075bf186ddbc47504e5f3e3506e78108f3e747c99c658025"), looks := false }, kinds := [], alts := [], laidByText := true, laidKinds := [.data, .data, .data], laidTests := true, laidLooks := .later }
def FnClockBeforeCardSaid : Prop := Claim7.holds Tryd.pinned (.plain (OpenSpec.ofChange fnClockBeforeSpec)) fnClockBeforeCard

/-- THE TIED CARD OF 'laws.FnClockStep'. -/
def fnClockStepCard : Claim7 := { stood := { row := fnClockStepRow, standIns := [], harness := (true, "f2c1c1767bf673cc075bf186ddbc47504e5f3e3506e78108f3e747c99c658025"), looks := false }, kinds := [], alts := [], laidByText := true, laidKinds := [.data, .data, .data], laidTests := true, laidLooks := .later }
def FnClockStepCardSaid : Prop := Claim7.holds Tryd.pinned (.plain (OpenSpec.ofChange fnClockStepSpec)) fnClockStepCard

/-- THE TIED CARD OF 'laws.FnClockJoin'. -/
def fnClockJoinCard : Claim7 := { stood := { row := fnClockJoinRow, standIns := [], harness := (true, "f2c1c1767bf673cc075bf186ddbc47504e5f3e3506e78108f3e747c99c658025"), looks := false }, kinds := [], alts := [], laidByText := true, laidKinds := [.data, .data, .data], laidTests := true, laidLooks := .later }
def FnClockJoinCardSaid : Prop := Claim7.holds Tryd.pinned (.plain (OpenSpec.ofChange fnClockJoinSpec)) fnClockJoinCard

/-- THE TIED CARD OF 'laws.FnTallyValid'. -/
def fnTallyValidCard : Claim7 := { stood := { row := fnTallyValidRow, standIns := [], harness := (true, "f2c1c1767bf673cc075bf186ddbc47504e5f3e3506e78108f3e747c99c658025"), looks := false }, kinds := [], alts := [], laidByText := true, laidKinds := [.data, .data, .data], laidTests := true, laidLooks := .later }
def FnTallyValidCardSaid : Prop := Claim7.holds Tryd.pinned (.plain (OpenSpec.ofChange fnTallyValidSpec)) fnTallyValidCard

/-- THE TIED CARD OF 'laws.FnTallyOf'. -/
def fnTallyOfCard : Claim7 := { stood := { row := fnTallyOfRow, standIns := [], harness := (true, "f2c1c1767bf673cc075bf186ddbc47504e5f3e3506e78108f3e747c99c658025"), looks := false }, kinds := [], alts := [], laidByText := true, laidKinds := [.data, .data, .data], laidTests := true, laidLooks := .later }
def FnTallyOfCardSaid : Prop := Claim7.holds Tryd.pinned (.plain (OpenSpec.ofChange fnTallyOfSpec)) fnTallyOfCard

/-- THE TIED CARD OF 'laws.FnCountTally'. -/
def fnCountTallyCard : Claim7 := { stood := { row := fnCountTallyRow, standIns := [], harness := (true, "f2c1c1767bf673cc075bf186ddbc47504e5f3e3506e78108f3e747c99c658025"), looks := false }, kinds := [], alts := [], laidByText := true, laidKinds := [.data, .data, .data], laidTests := true, laidLooks := .later }
def FnCountTallyCardSaid : Prop := Claim7.holds Tryd.pinned (.plain (OpenSpec.ofChange fnCountTallySpec)) fnCountTallyCard

/-- THE TIED CARD OF 'laws.FnJoinTally'. -/
def fnJoinTallyCard : Claim7 := { stood := { row := fnJoinTallyRow, standIns := [], harness := (true, "f2c1c1767bf673cc075bf186ddbc47504e5f3e3506e78108f3e747c99c658025"), looks := false }, kinds := [], alts := [], laidByText := true, laidKinds := [.data, .data, .data], laidTests := true, laidLooks := .later }
def FnJoinTallyCardSaid : Prop := Claim7.holds Tryd.pinned (.plain (OpenSpec.ofChange fnJoinTallySpec)) fnJoinTallyCard

/-- THE SECOND FORM's CARD OF 'laws.FnLevelText'. -/
def fnLevelTextUptoCard : Claim7 := { stood := { row := fnLevelTextUptoRow, standIns := [], harness := (true, "f2c1c1767bf673cc075bf186ddbc47504e5f3e3506e78108f3e747c99c658025"), looks := false }, kinds := [], alts := [], laidByText := true, laidKinds := [.data, .data, .data], laidTests := true, laidLooks := .later }
def FnLevelTextUptoCardSaid : Prop := Claim7.holds Tryd.pinned (.plain (OpenSpec.upto fnLevelTextSpec)) fnLevelTextUptoCard

/-- THE SECOND FORM's CARD OF 'laws.FnStampedValid'. -/
def fnStampedValidUptoCard : Claim7 := { stood := { row := fnStampedValidUptoRow, standIns := [], harness := (true, "f2c1c1767bf673cc075bf186ddbc47504e5f3e3506e78108f3e747c99c658025"), looks := false }, kinds := [], alts := [], laidByText := true, laidKinds := [.data, .data, .data], laidTests := true, laidLooks := .later }
def FnStampedValidUptoCardSaid : Prop := Claim7.holds Tryd.pinned (.plain (OpenSpec.upto fnStampedValidSpec)) fnStampedValidUptoCard

/-- THE SECOND FORM's CARD OF 'laws.FnLaterStamped'. -/
def fnLaterStampedUptoCard : Claim7 := { stood := { row := fnLaterStampedUptoRow, standIns := [], harness := (true, "f2c1c1767bf673cc075bf186ddbc47504e5f3e3506e78108f3e747c99c658025"), looks := false }, kinds := [], alts := [], laidByText := true, laidKinds := [.data, .data, .data], laidTests := true, laidLooks := .later }
def FnLaterStampedUptoCardSaid : Prop := Claim7.holds Tryd.pinned (.plain (OpenSpec.upto fnLaterStampedSpec)) fnLaterStampedUptoCard

/-- THE SECOND FORM's CARD OF 'laws.FnClockValid'. -/
def fnClockValidUptoCard : Claim7 := { stood := { row := fnClockValidUptoRow, standIns := [], harness := (true, "f2c1c1767bf673cc075bf186ddbc47504e5f3e3506e78108f3e747c99c658025"), looks := false }, kinds := [], alts := [], laidByText := true, laidKinds := [.data, .data, .data], laidTests := true, laidLooks := .later }
def FnClockValidUptoCardSaid : Prop := Claim7.holds Tryd.pinned (.plain (OpenSpec.upto fnClockValidSpec)) fnClockValidUptoCard

/-- THE SECOND FORM's CARD OF 'laws.FnClockBefore'. -/
def fnClockBeforeUptoCard : Claim7 := { stood := { row := fnClockBeforeUptoRow, standIns := [], harness := (true, "f2c1c1767bf673cc075bf186ddbc47504e5f3e3506e78108f3e747c99c658025"), looks := false }, kinds := [], alts := [], laidByText := true, laidKinds := [.data, .data, .data], laidTests := true, laidLooks := .later }
def FnClockBeforeUptoCardSaid : Prop := Claim7.holds Tryd.pinned (.plain (OpenSpec.upto fnClockBeforeSpec)) fnClockBeforeUptoCard

/-- THE SECOND FORM's CARD OF 'laws.FnClockStep'. -/
def fnClockStepUptoCard : Claim7 := { stood := { row := fnClockStepUptoRow, standIns := [], harness := (true, "f2c1c1767bf673cc075bf186ddbc47504e5f3e3506e78108f3e747c99c658025"), looks := false }, kinds := [], alts := [], laidByText := true, laidKinds := [.data, .data, .data], laidTests := true, laidLooks := .later }
def FnClockStepUptoCardSaid : Prop := Claim7.holds Tryd.pinned (.plain (OpenSpec.upto fnClockStepSpec)) fnClockStepUptoCard

/-- THE SECOND FORM's CARD OF 'laws.FnClockJoin'. -/
def fnClockJoinUptoCard : Claim7 := { stood := { row := fnClockJoinUptoRow, standIns := [], harness := (true, "f2c1c1767bf673cc075bf186ddbc47504e5f3e3506e78108f3e747c99c658025"), looks := false }, kinds := [], alts := [], laidByText := true, laidKinds := [.data, .data, .data], laidTests := true, laidLooks := .later }
def FnClockJoinUptoCardSaid : Prop := Claim7.holds Tryd.pinned (.plain (OpenSpec.upto fnClockJoinSpec)) fnClockJoinUptoCard

/-- THE SECOND FORM's CARD OF 'laws.FnTallyValid'. -/
def fnTallyValidUptoCard : Claim7 := { stood := { row := fnTallyValidUptoRow, standIns := [], harness := (true, "f2c1c1767bf673cc075bf186ddbc47504e5f3e3506e78108f3e747c99c658025"), looks := false }, kinds := [], alts := [], laidByText := true, laidKinds := [.data, .data, .data], laidTests := true, laidLooks := .later }
def FnTallyValidUptoCardSaid : Prop := Claim7.holds Tryd.pinned (.plain (OpenSpec.upto fnTallyValidSpec)) fnTallyValidUptoCard

/-- THE SECOND FORM's CARD OF 'laws.FnTallyOf'. -/
def fnTallyOfUptoCard : Claim7 := { stood := { row := fnTallyOfUptoRow, standIns := [], harness := (true, "f2c1c1767bf673cc075bf186ddbc47504e5f3e3506e78108f3e747c99c658025"), looks := false }, kinds := [], alts := [], laidByText := true, laidKinds := [.data, .data, .data], laidTests := true, laidLooks := .later }
def FnTallyOfUptoCardSaid : Prop := Claim7.holds Tryd.pinned (.plain (OpenSpec.upto fnTallyOfSpec)) fnTallyOfUptoCard

/-- THE SECOND FORM's CARD OF 'laws.FnCountTally'. -/
def fnCountTallyUptoCard : Claim7 := { stood := { row := fnCountTallyUptoRow, standIns := [], harness := (true, "f2c1c1767bf673cc075bf186ddbc47504e5f3e3506e78108f3e747c99c658025"), looks := false }, kinds := [], alts := [], laidByText := true, laidKinds := [.data, .data, .data], laidTests := true, laidLooks := .later }
def FnCountTallyUptoCardSaid : Prop := Claim7.holds Tryd.pinned (.plain (OpenSpec.upto fnCountTallySpec)) fnCountTallyUptoCard

/-- THE SECOND FORM's CARD OF 'laws.FnJoinTally'. -/
def fnJoinTallyUptoCard : Claim7 := { stood := { row := fnJoinTallyUptoRow, standIns := [], harness := (true, "f2c1c1767bf673cc075bf186ddbc47504e5f3e3506e78108f3e747c99c658025"), looks := false }, kinds := [], alts := [], laidByText := true, laidKinds := [.data, .data, .data], laidTests := true, laidLooks := .later }
def FnJoinTallyUptoCardSaid : Prop := Claim7.holds Tryd.pinned (.plain (OpenSpec.upto fnJoinTallySpec)) fnJoinTallyUptoCard
end Rows
end Go.Proofs.YtjgjlcpnfiocfaaDoor
