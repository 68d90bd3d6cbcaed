/-
  DERIVED. GIVEN WITH THE SEED: THE CARDS: each row of YtfcfhgophpoibaaDoorRows.lean that lists a variable, with what it lists TIED to the program's text (the seventh form; the later family's looks); each row that meets fmt, with fmt's text TOLD by the authors' own Lean function (tested against real Go, not proved from fmt's source: count such statements apart). THE CARD IS WHAT COUNTS. Prove the row's statement (the work); the ties are given (YtfcfhgophpoibaaDoorTie.lean); close each card by the builder's one call (the guide's Derived/Test/ToyasCard.lean, 'card_holds'). Laid BY PROGRAM, IN A SANDBOX (cutbox-door.mjs). By AI agents, Wed Nov 11 2026. No macro, syntax, notation, axiom, sorry.
-/
import Derived.Test.YtfcfhgophpoibaaDoorRows
import GoSem.ClaimSeven
namespace Go.Proofs.YtfcfhgophpoibaaDoor
namespace Rows

/-- THE TIED CARD OF 'laws.FnRunDirty'. -/
def fnRunDirtyCard : Claim7 := { stood := { row := fnRunDirtyRow, standIns := [], harness := (true, "a0b8502a6980d9dabde8adba7cd9e4bc28be48685489fa259a7add24dcf9ed36"), looks := false }, kinds := [], alts := [], laidByText := true, laidKinds := [.data, .data, .data], laidTests := true, laidLooks := .later }
def FnRunDirtyCardSaid : Prop := Claim7.holds Tryd.pinned (.plain (OpenSpec.ofChange fnRunDirtySpec)) fnRunDirtyCard

/-- THE TIED CARD OF 'laws.FnWaitingTxns'. -/
def fnWaitingTxnsCard : Claim7 := { stood := { row := fnWaitingTxnsRow, standIns := [], harness := (true, "a0b8502a6980d9dabde8adba7cd9e4bc28be48685489fa259a7add24dcf9ed36"), looks := false }, kinds := [], alts := [], laidByText := true, laidKinds := [.data, .data, .data], laidTests := true, laidLooks := .later }
def FnWaitingTxnsCardSaid : Prop := Claim7.holds Tryd.pinned (.plain (OpenSpec.ofChange fnWaitingTxnsSpec)) fnWaitingTxnsCard

/-- THE TIED CARD OF 'laws.FnLocksAlone'. -/
def fnLocksAloneCard : Claim7 := { stood := { row := fnLocksAloneRow, standIns := [], harness := (true, "a0b8502a6980d9dabde8adba7cd9e4bc28be48685489fa259a7add24dcf9ed36"), looks := false }, kinds := [], alts := [], laidByText := true, laidKinds := [.data, .data, .data], laidTests := true, laidLooks := .later }
def FnLocksAloneCardSaid : Prop := Claim7.holds Tryd.pinned (.plain (OpenSpec.ofChange fnLocksAloneSpec)) fnLocksAloneCard

/-- THE SECOND FORM's CARD OF 'laws.FnRunDirty'. -/
def fnRunDirtyUptoCard : Claim7 := { stood := { row := fnRunDirtyUptoRow, standIns := [], harness := (true, "a0b8502a6980d9dabde8adba7cd9e4bc28be48685489fa259a7add24dcf9ed36"), looks := false }, kinds := [], alts := [], laidByText := true, laidKinds := [.data, .data, .data], laidTests := true, laidLooks := .later }
def FnRunDirtyUptoCardSaid : Prop := Claim7.holds Tryd.pinned (.plain (OpenSpec.upto fnRunDirtySpec)) fnRunDirtyUptoCard

/-- THE SECOND FORM's CARD OF 'laws.FnWaitingTxns'. -/
def fnWaitingTxnsUptoCard : Claim7 := { stood := { row := fnWaitingTxnsUptoRow, standIns := [], harness := (true, "a0b8502a6980d9dabde8adba7cd9e4bc28be48685489fa259a7add24dcf9ed36"), looks := false }, kinds := [], alts := [], laidByText := true, laidKinds := [.data, .data, .data], laidTests := true, laidLooks := .later }
def FnWaitingTxnsUptoCardSaid : Prop := Claim7.holds Tryd.pinned (.plain (OpenSpec.upto fnWaitingTxnsSpec)) fnWaitingTxnsUptoCard

/-- THE SECOND FORM's CARD OF 'laws.FnLocksAlone'. -/
def fnLocksAloneUptoCard : Claim7 := { stood := { row := fnLocksAloneUptoRow, standIns := [], harness := (true, "a0b8502a6980d9dabde8adba7cd9e4bc28be48685489fa259a7add24dcf9ed36"), looks := false }, kinds := [], alts := [], laidByText := true, laidKinds := [.data, .data, .data], laidTests := true, laidLooks := .later }
def FnLocksAloneUptoCardSaid : Prop := Claim7.holds Tryd.pinned (.plain (OpenSpec.upto fnLocksAloneSpec)) fnLocksAloneUptoCard
end Rows
end Go.Proofs.YtfcfhgophpoibaaDoor
