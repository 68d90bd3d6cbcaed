/-
  DERIVED. GIVEN WITH THE SEED: THE CARDS: each row of YtcoienlblhbkpaaDoorRows.lean that lists a variable, with what it lists TIED to the program's text (the seventh form; the later family's looks); each row that meets fmt, with fmt's text TOLD by the authors' own Lean function (tested against real Go, not proved from fmt's source: count such statements apart). THE CARD IS WHAT COUNTS. Prove the row's statement (the work); the ties are given (YtcoienlblhbkpaaDoorTie.lean); close each card by the builder's one call (the guide's Derived/Test/ToyasCard.lean, 'card_holds'). Laid BY PROGRAM, IN A SANDBOX (cutbox-door.mjs). By AI agents, Wed Nov 11 2026. No macro, syntax, notation, axiom, sorry.
-/
import Derived.Test.YtcoienlblhbkpaaDoorRows
import GoSem.ClaimSeven
namespace Go.Proofs.YtcoienlblhbkpaaDoor
namespace Rows

/-- THE TIED CARD OF 'laws.FnExactInShared'. -/
def fnExactInSharedCard : Claim7 := { stood := { row := fnExactInSharedRow, standIns := [], harness := (true, "05a08bfe29a0c28e6e014570d56fa0359cf688acda83bdb85be7a3739bc03165"), looks := false }, kinds := [], alts := [], laidByText := true, laidKinds := [.data, .data], laidTests := true, laidLooks := .later }
def FnExactInSharedCardSaid : Prop := Claim7.holds Tryd.pinned (.plain (OpenSpec.ofChange fnExactInSharedSpec)) fnExactInSharedCard

/-- THE TIED CARD OF 'laws.FnExactPutShared'. -/
def fnExactPutSharedCard : Claim7 := { stood := { row := fnExactPutSharedRow, standIns := [], harness := (true, "05a08bfe29a0c28e6e014570d56fa0359cf688acda83bdb85be7a3739bc03165"), looks := false }, kinds := [], alts := [], laidByText := true, laidKinds := [.data, .data], laidTests := true, laidLooks := .later }
def FnExactPutSharedCardSaid : Prop := Claim7.holds Tryd.pinned (.plain (OpenSpec.ofChange fnExactPutSharedSpec)) fnExactPutSharedCard

/-- THE TIED CARD OF 'laws.FnExactTakeShared'. -/
def fnExactTakeSharedCard : Claim7 := { stood := { row := fnExactTakeSharedRow, standIns := [], harness := (true, "05a08bfe29a0c28e6e014570d56fa0359cf688acda83bdb85be7a3739bc03165"), looks := false }, kinds := [], alts := [], laidByText := true, laidKinds := [.data, .data], laidTests := true, laidLooks := .later }
def FnExactTakeSharedCardSaid : Prop := Claim7.holds Tryd.pinned (.plain (OpenSpec.ofChange fnExactTakeSharedSpec)) fnExactTakeSharedCard

/-- THE TIED CARD OF 'laws.FnExactJoinShared'. -/
def fnExactJoinSharedCard : Claim7 := { stood := { row := fnExactJoinSharedRow, standIns := [], harness := (true, "05a08bfe29a0c28e6e014570d56fa0359cf688acda83bdb85be7a3739bc03165"), looks := false }, kinds := [], alts := [], laidByText := true, laidKinds := [.data, .data], laidTests := true, laidLooks := .later }
def FnExactJoinSharedCardSaid : Prop := Claim7.holds Tryd.pinned (.plain (OpenSpec.ofChange fnExactJoinSharedSpec)) fnExactJoinSharedCard

/-- THE TIED CARD OF 'laws.FnSharedValid'. -/
def fnSharedValidCard : Claim7 := { stood := { row := fnSharedValidRow, standIns := [], harness := (true, "05a08bfe29a0c28e6e014570d56fa0359cf688acda83bdb85be7a3739bc03165"), looks := false }, kinds := [], alts := [], laidByText := true, laidKinds := [.data, .data, .data], laidTests := true, laidLooks := .later }
def FnSharedValidCardSaid : Prop := Claim7.holds Tryd.pinned (.plain (OpenSpec.ofChange fnSharedValidSpec)) fnSharedValidCard

/-- THE TIED CARD OF 'laws.FnMayDeliver'. -/
def fnMayDeliverCard : Claim7 := { stood := { row := fnMayDeliverRow, standIns := [], harness := (true, "05a08bfe29a0c28e6e014570d56fa0359cf688acda83bdb85be7a3739bc03165"), looks := false }, kinds := [], alts := [], laidByText := true, laidKinds := [.data, .data, .data], laidTests := true, laidLooks := .later }
def FnMayDeliverCardSaid : Prop := Claim7.holds Tryd.pinned (.plain (OpenSpec.ofChange fnMayDeliverSpec)) fnMayDeliverCard

/-- THE TIED CARD OF 'laws.FnPutShared'. -/
def fnPutSharedCard : Claim7 := { stood := { row := fnPutSharedRow, standIns := [], harness := (true, "05a08bfe29a0c28e6e014570d56fa0359cf688acda83bdb85be7a3739bc03165"), looks := false }, kinds := [], alts := [], laidByText := true, laidKinds := [.data, .data, .data], laidTests := true, laidLooks := .later }
def FnPutSharedCardSaid : Prop := Claim7.holds Tryd.pinned (.plain (OpenSpec.ofChange fnPutSharedSpec)) fnPutSharedCard

/-- THE TIED CARD OF 'laws.FnInShared'. -/
def fnInSharedCard : Claim7 := { stood := { row := fnInSharedRow, standIns := [], harness := (true, "05a08bfe29a0c28e6e014570d56fa0359cf688acda83bdb85be7a3739bc03165"), looks := false }, kinds := [], alts := [], laidByText := true, laidKinds := [.data, .data, .data], laidTests := true, laidLooks := .later }
def FnInSharedCardSaid : Prop := Claim7.holds Tryd.pinned (.plain (OpenSpec.ofChange fnInSharedSpec)) fnInSharedCard

/-- THE TIED CARD OF 'laws.FnJoinShared'. -/
def fnJoinSharedCard : Claim7 := { stood := { row := fnJoinSharedRow, standIns := [], harness := (true, "05a08bfe29a0c28e6e014570d56fa0359cf688acda83bdb85be7a3739bc03165"), looks := false }, kinds := [], alts := [], laidByText := true, laidKinds := [.data, .data, .data], laidTests := true, laidLooks := .later }
def FnJoinSharedCardSaid : Prop := Claim7.holds Tryd.pinned (.plain (OpenSpec.ofChange fnJoinSharedSpec)) fnJoinSharedCard

/-- THE SECOND FORM's CARD OF 'laws.FnExactInShared'. -/
def fnExactInSharedUptoCard : Claim7 := { stood := { row := fnExactInSharedUptoRow, standIns := [], harness := (true, "05a08bfe29a0c28e6e014570d56fa0359cf688acda83bdb85be7a3739bc03165"), looks := false }, kinds := [], alts := [], laidByText := true, laidKinds := [.data, .data], laidTests := true, laidLooks := .later }
def FnExactInSharedUptoCardSaid : Prop := Claim7.holds Tryd.pinned (.plain (OpenSpec.upto fnExactInSharedSpec)) fnExactInSharedUptoCard

/-- THE SECOND FORM's CARD OF 'laws.FnExactPutShared'. -/
def fnExactPutSharedUptoCard : Claim7 := { stood := { row := fnExactPutSharedUptoRow, standIns := [], harness := (true, "05a08bfe29a0c28e6e014570d56fa0359cf688acda83bdb85be7a3739bc03165"), looks := false }, kinds := [], alts := [], laidByText := true, laidKinds := [.data, .data], laidTests := true, laidLooks := .later }
def FnExactPutSharedUptoCardSaid : Prop := Claim7.holds Tryd.pinned (.plain (OpenSpec.upto fnExactPutSharedSpec)) fnExactPutSharedUptoCard

/-- THE SECOND FORM's CARD OF 'laws.FnExactTakeShared'. -/
def fnExactTakeSharedUptoCard : Claim7 := { stood := { row := fnExactTakeSharedUptoRow, standIns := [], harness := (true, "05a08bfe29a0c28e6e014570d56fa0359cf688acda83bdb85be7a3739bc03165"), looks := false }, kinds := [], alts := [], laidByText := true, laidKinds := [.data, .data], laidTests := true, laidLooks := .later }
def FnExactTakeSharedUptoCardSaid : Prop := Claim7.holds Tryd.pinned (.plain (OpenSpec.upto fnExactTakeSharedSpec)) fnExactTakeSharedUptoCard

/-- THE SECOND FORM's CARD OF 'laws.FnExactJoinShared'. -/
def fnExactJoinSharedUptoCard : Claim7 := { stood := { row := fnExactJoinSharedUptoRow, standIns := [], harness := (true, "05a08bfe29a0c28e6e014570d56fa0359cf688acda83bdb85be7a3739bc03165"), looks := false }, kinds := [], alts := [], laidByText := true, laidKinds := [.data, .data], laidTests := true, laidLooks := .later }
def FnExactJoinSharedUptoCardSaid : Prop := Claim7.holds Tryd.pinned (.plain (OpenSpec.upto fnExactJoinSharedSpec)) fnExactJoinSharedUptoCard

/-- THE SECOND FORM's CARD OF 'laws.FnSharedValid'. -/
def fnSharedValidUptoCard : Claim7 := { stood := { row := fnSharedValidUptoRow, standIns := [], harness := (true, "05a08bfe29a0c28e6e014570d56fa0359cf688acda83bdb85be7a3739bc03165"), looks := false }, kinds := [], alts := [], laidByText := true, laidKinds := [.data, .data, .data], laidTests := true, laidLooks := .later }
def FnSharedValidUptoCardSaid : Prop := Claim7.holds Tryd.pinned (.plain (OpenSpec.upto fnSharedValidSpec)) fnSharedValidUptoCard

/-- THE SECOND FORM's CARD OF 'laws.FnMayDeliver'. -/
def fnMayDeliverUptoCard : Claim7 := { stood := { row := fnMayDeliverUptoRow, standIns := [], harness := (true, "05a08bfe29a0c28e6e014570d56fa0359cf688acda83bdb85be7a3739bc03165"), looks := false }, kinds := [], alts := [], laidByText := true, laidKinds := [.data, .data, .data], laidTests := true, laidLooks := .later }
def FnMayDeliverUptoCardSaid : Prop := Claim7.holds Tryd.pinned (.plain (OpenSpec.upto fnMayDeliverSpec)) fnMayDeliverUptoCard

/-- THE SECOND FORM's CARD OF 'laws.FnPutShared'. -/
def fnPutSharedUptoCard : Claim7 := { stood := { row := fnPutSharedUptoRow, standIns := [], harness := (true, "05a08bfe29a0c28e6e014570d56fa0359cf688acda83bdb85be7a3739bc03165"), looks := false }, kinds := [], alts := [], laidByText := true, laidKinds := [.data, .data, .data], laidTests := true, laidLooks := .later }
def FnPutSharedUptoCardSaid : Prop := Claim7.holds Tryd.pinned (.plain (OpenSpec.upto fnPutSharedSpec)) fnPutSharedUptoCard

/-- THE SECOND FORM's CARD OF 'laws.FnInShared'. -/
def fnInSharedUptoCard : Claim7 := { stood := { row := fnInSharedUptoRow, standIns := [], harness := (true, "05a08bfe29a0c28e6e014570d56fa0359cf688acda83bdb85be7a3739bc03165"), looks := false }, kinds := [], alts := [], laidByText := true, laidKinds := [.data, .data, .data], laidTests := true, laidLooks := .later }
def FnInSharedUptoCardSaid : Prop := Claim7.holds Tryd.pinned (.plain (OpenSpec.upto fnInSharedSpec)) fnInSharedUptoCard

/-- THE SECOND FORM's CARD OF 'laws.FnJoinShared'. -/
def fnJoinSharedUptoCard : Claim7 := { stood := { row := fnJoinSharedUptoRow, standIns := [], harness := (true, "05a08bfe29a0c28e6e014570d56fa0359cf688acda83bdb85be7a3739bc03165"), looks := false }, kinds := [], alts := [], laidByText := true, laidKinds := [.data, .data, .data], laidTests := true, laidLooks := .later }
def FnJoinSharedUptoCardSaid : Prop := Claim7.holds Tryd.pinned (.plain (OpenSpec.upto fnJoinSharedSpec)) fnJoinSharedUptoCard
end Rows
end Go.Proofs.YtcoienlblhbkpaaDoor
