/-
  DERIVED. GIVEN WITH THE SEED: THE CARDS: each row of YtopjdidigfdhbaaDoorRows.lean that lists a variable, with what it lists TIED to the program's text (the seventh form; the later family's looks); each row that meets fmt, with fmt's text TOLD by the authors' own Lean function (tested against real Go, not proved from fmt's source: count such statements apart). THE CARD IS WHAT COUNTS. Prove the row's statement (the work); the ties are given (YtopjdidigfdhbaaDoorTie.lean); close each card by the builder's one call (the guide's Derived/Test/ToyasCard.lean, 'card_holds'). Laid BY PROGRAM, IN A SANDBOX (cutbox-door.mjs). By AI agents, Wed Nov 11 2026. No macro, syntax, notation, axiom, sorry.
-/
import Derived.Test.YtopjdidigfdhbaaDoorRows
import GoSem.ClaimSeven
namespace Go.Proofs.YtopjdidigfdhbaaDoor
namespace Rows

/-- THE TIED CARD OF 'laws.FnLaterStamped'. -/
def fnLaterStampedCard : Claim7 := { stood := { row := fnLaterStampedRow, standIns := [], harness := (true, "750ad089a0909c8e2fda4b82ce8af6d79673fc2283ed16af9c51f11c2587aea3"), looks := false }, kinds := [], alts := [], laidByText := true, laidKinds := [.data, .data, .data], laidTests := true, laidLooks := .later }
def FnLaterStampedCardSaid : Prop := Claim7.holds Tryd.pinned (.plain (OpenSpec.ofChange fnLaterStampedSpec)) fnLaterStampedCard

/-- THE TIED CARD OF 'laws.FnLastStamped'. -/
def fnLastStampedCard : Claim7 := { stood := { row := fnLastStampedRow, standIns := [], harness := (true, "750ad089a0909c8e2fda4b82ce8af6d79673fc2283ed16af9c51f11c2587aea3"), looks := false }, kinds := [], alts := [], laidByText := true, laidKinds := [.data, .data, .data], laidTests := true, laidLooks := .later }
def FnLastStampedCardSaid : Prop := Claim7.holds Tryd.pinned (.plain (OpenSpec.ofChange fnLastStampedSpec)) fnLastStampedCard

/-- THE TIED CARD OF 'laws.FnCountEdges'. -/
def fnCountEdgesCard : Claim7 := { stood := { row := fnCountEdgesRow, standIns := [], harness := (true, "750ad089a0909c8e2fda4b82ce8af6d79673fc2283ed16af9c51f11c2587aea3"), looks := false }, kinds := [], alts := [], laidByText := true, laidKinds := [.data, .data, .data], laidTests := true, laidLooks := .later }
def FnCountEdgesCardSaid : Prop := Claim7.holds Tryd.pinned (.plain (OpenSpec.ofChange fnCountEdgesSpec)) fnCountEdgesCard

/-- THE TIED CARD OF 'laws.FnJoinTally'. -/
def fnJoinTallyCard : Claim7 := { stood := { row := fnJoinTallyRow, standIns := [], harness := (true, "750ad089a0909c8e2fda4b82ce8af6d79673fc2283ed16af9c51f11c2587aea3"), looks := false }, kinds := [], alts := [], laidByText := true, laidKinds := [.data, .data, .data], laidTests := true, laidLooks := .later }
def FnJoinTallyCardSaid : Prop := Claim7.holds Tryd.pinned (.plain (OpenSpec.ofChange fnJoinTallySpec)) fnJoinTallyCard

/-- THE TIED CARD OF 'laws.FnMessagesValid'. -/
def fnMessagesValidCard : Claim7 := { stood := { row := fnMessagesValidRow, standIns := [], harness := (true, "750ad089a0909c8e2fda4b82ce8af6d79673fc2283ed16af9c51f11c2587aea3"), looks := false }, kinds := [], alts := [], laidByText := true, laidKinds := [.data, .data, .data], laidTests := true, laidLooks := .later }
def FnMessagesValidCardSaid : Prop := Claim7.holds Tryd.pinned (.plain (OpenSpec.ofChange fnMessagesValidSpec)) fnMessagesValidCard

/-- THE TIED CARD OF 'laws.FnDeliverOrder'. -/
def fnDeliverOrderCard : Claim7 := { stood := { row := fnDeliverOrderRow, standIns := [], harness := (true, "750ad089a0909c8e2fda4b82ce8af6d79673fc2283ed16af9c51f11c2587aea3"), looks := false }, kinds := [], alts := [], laidByText := true, laidKinds := [.data, .data, .data], laidTests := true, laidLooks := .later }
def FnDeliverOrderCardSaid : Prop := Claim7.holds Tryd.pinned (.plain (OpenSpec.ofChange fnDeliverOrderSpec)) fnDeliverOrderCard

/-- THE SECOND FORM's CARD OF 'laws.FnLaterStamped'. -/
def fnLaterStampedUptoCard : Claim7 := { stood := { row := fnLaterStampedUptoRow, standIns := [], harness := (true, "750ad089a0909c8e2fda4b82ce8af6d79673fc2283ed16af9c51f11c2587aea3"), looks := false }, kinds := [], alts := [], laidByText := true, laidKinds := [.data, .data, .data], laidTests := true, laidLooks := .later }
def FnLaterStampedUptoCardSaid : Prop := Claim7.holds Tryd.pinned (.plain (OpenSpec.upto fnLaterStampedSpec)) fnLaterStampedUptoCard

/-- THE SECOND FORM's CARD OF 'laws.FnLastStamped'. -/
def fnLastStampedUptoCard : Claim7 := { stood := { row := fnLastStampedUptoRow, standIns := [], harness := (true, "750ad089a0909c8e2fda4b82ce8af6d79673fc2283ed16af9c51f11c2587aea3"), looks := false }, kinds := [], alts := [], laidByText := true, laidKinds := [.data, .data, .data], laidTests := true, laidLooks := .later }
def FnLastStampedUptoCardSaid : Prop := Claim7.holds Tryd.pinned (.plain (OpenSpec.upto fnLastStampedSpec)) fnLastStampedUptoCard

/-- THE SECOND FORM's CARD OF 'laws.FnCountEdges'. -/
def fnCountEdgesUptoCard : Claim7 := { stood := { row := fnCountEdgesUptoRow, standIns := [], harness := (true, "750ad089a0909c8e2fda4b82ce8af6d79673fc2283ed16af9c51f11c2587aea3"), looks := false }, kinds := [], alts := [], laidByText := true, laidKinds := [.data, .data, .data], laidTests := true, laidLooks := .later }
def FnCountEdgesUptoCardSaid : Prop := Claim7.holds Tryd.pinned (.plain (OpenSpec.upto fnCountEdgesSpec)) fnCountEdgesUptoCard

/-- THE SECOND FORM's CARD OF 'laws.FnJoinTally'. -/
def fnJoinTallyUptoCard : Claim7 := { stood := { row := fnJoinTallyUptoRow, standIns := [], harness := (true, "750ad089a0909c8e2fda4b82ce8af6d79673fc2283ed16af9c51f11c2587aea3"), looks := false }, kinds := [], alts := [], laidByText := true, laidKinds := [.data, .data, .data], laidTests := true, laidLooks := .later }
def FnJoinTallyUptoCardSaid : Prop := Claim7.holds Tryd.pinned (.plain (OpenSpec.upto fnJoinTallySpec)) fnJoinTallyUptoCard

/-- THE SECOND FORM's CARD OF 'laws.FnMessagesValid'. -/
def fnMessagesValidUptoCard : Claim7 := { stood := { row := fnMessagesValidUptoRow, standIns := [], harness := (true, "750ad089a0909c8e2fda4b82ce8af6d79673fc2283ed16af9c51f11c2587aea3"), looks := false }, kinds := [], alts := [], laidByText := true, laidKinds := [.data, .data, .data], laidTests := true, laidLooks := .later }
def FnMessagesValidUptoCardSaid : Prop := Claim7.holds Tryd.pinned (.plain (OpenSpec.upto fnMessagesValidSpec)) fnMessagesValidUptoCard

/-- THE SECOND FORM's CARD OF 'laws.FnDeliverOrder'. -/
def fnDeliverOrderUptoCard : Claim7 := { stood := { row := fnDeliverOrderUptoRow, standIns := [], harness := (true, "750ad089a0909c8e2fda4b82ce8af6d79673fc2283ed16af9c51f11c2587aea3"), looks := false }, kinds := [], alts := [], laidByText := true, laidKinds := [.data, .data, .data], laidTests := true, laidLooks := .later }
def FnDeliverOrderUptoCardSaid : Prop := Claim7.holds Tryd.pinned (.plain (OpenSpec.upto fnDeliverOrderSpec)) fnDeliverOrderUptoCard
end Rows
end Go.Proofs.YtopjdidigfdhbaaDoor
