/-
  DERIVED. GIVEN WITH THE SEED: THE CARDS: each row of YtcfkemchekmjbaaGreatDoorRows.lean that lists a variable, with what it lists TIED to the program's text (the seventh form; the later family's looks); each row that meets fmt, with fmt's text TOLD by the authors' own Lean function (tested against real Go, not proved from fmt's source: count such statements apart). THE CARD IS WHAT COUNTS. Prove the row's statement (the work); the ties are given (YtcfkemchekmjbaaGreatDoorTie.lean); close each card by the builder's one call (the guide's Derived/Test/ToyasCard.lean, 'card_holds'). Laid BY PROGRAM, IN A SANDBOX (cutbox-door.mjs). By AI agents, Wed Nov 11 2026. No macro, syntax, notation, axiom, sorry.
-/
import Derived.Test.YtcfkemchekmjbaaGreatDoorRows
import GoSem.ClaimSeven
namespace Go.Proofs.YtcfkemchekmjbaaGreatDoor
namespace Rows

/-- THE TIED CARD OF 'laws.FnRunSnapshots'. -/
def fnRunSnapshotsCard : Claim7 := { stood := { row := fnRunSnapshotsRow, standIns := [], harness := (true, "9af5077e89de15cab046327a150948ab53ebcc6c2c03e15c70c450fd55c3e928"), looks := false }, kinds := [], alts := [], laidByText := true, laidKinds := [.data, .data, .data], laidTests := true, laidLooks := .later }
def FnRunSnapshotsCardSaid : Prop := Claim7.holds Tryz.pinned (.plain (OpenSpec.ofChange fnRunSnapshotsSpec)) fnRunSnapshotsCard

/-- THE TIED CARD OF 'laws.FnExactReportOf'. -/
def fnExactReportOfCard : Claim7 := { stood := { row := fnExactReportOfRow, standIns := [], harness := (true, "9af5077e89de15cab046327a150948ab53ebcc6c2c03e15c70c450fd55c3e928"), looks := false }, kinds := [], alts := [], laidByText := true, laidKinds := [.data, .data, .data], laidTests := true, laidLooks := .later }
def FnExactReportOfCardSaid : Prop := Claim7.holds Tryz.pinned (.plain (OpenSpec.ofChange fnExactReportOfSpec)) fnExactReportOfCard

/-- THE TIED CARD OF 'laws.FnReportOf'. -/
def fnReportOfCard : Claim7 := { stood := { row := fnReportOfRow, standIns := [], harness := (true, "9af5077e89de15cab046327a150948ab53ebcc6c2c03e15c70c450fd55c3e928"), looks := false }, kinds := [], alts := [], laidByText := true, laidKinds := [.data, .data, .data], laidTests := true, laidLooks := .later }
def FnReportOfCardSaid : Prop := Claim7.holds Tryz.pinned (.plain (OpenSpec.ofChange fnReportOfSpec)) fnReportOfCard

/-- THE SECOND FORM's CARD OF 'laws.FnRunSnapshots'. -/
def fnRunSnapshotsUptoCard : Claim7 := { stood := { row := fnRunSnapshotsUptoRow, standIns := [], harness := (true, "9af5077e89de15cab046327a150948ab53ebcc6c2c03e15c70c450fd55c3e928"), looks := false }, kinds := [], alts := [], laidByText := true, laidKinds := [.data, .data, .data], laidTests := true, laidLooks := .later }
def FnRunSnapshotsUptoCardSaid : Prop := Claim7.holds Tryz.pinned (.plain (OpenSpec.upto fnRunSnapshotsSpec)) fnRunSnapshotsUptoCard

/-- THE SECOND FORM's CARD OF 'laws.FnExactReportOf'. -/
def fnExactReportOfUptoCard : Claim7 := { stood := { row := fnExactReportOfUptoRow, standIns := [], harness := (true, "9af5077e89de15cab046327a150948ab53ebcc6c2c03e15c70c450fd55c3e928"), looks := false }, kinds := [], alts := [], laidByText := true, laidKinds := [.data, .data, .data], laidTests := true, laidLooks := .later }
def FnExactReportOfUptoCardSaid : Prop := Claim7.holds Tryz.pinned (.plain (OpenSpec.upto fnExactReportOfSpec)) fnExactReportOfUptoCard

/-- THE SECOND FORM's CARD OF 'laws.FnReportOf'. -/
def fnReportOfUptoCard : Claim7 := { stood := { row := fnReportOfUptoRow, standIns := [], harness := (true, "9af5077e89de15cab046327a150948ab53ebcc6c2c03e15c70c450fd55c3e928"), looks := false }, kinds := [], alts := [], laidByText := true, laidKinds := [.data, .data, .data], laidTests := true, laidLooks := .later }
def FnReportOfUptoCardSaid : Prop := Claim7.holds Tryz.pinned (.plain (OpenSpec.upto fnReportOfSpec)) fnReportOfUptoCard
end Rows
end Go.Proofs.YtcfkemchekmjbaaGreatDoor
