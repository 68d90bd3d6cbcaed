/-
  No cell of these rows narrows 'for every input' (looked for: loops, veiled, ifaces, maps, wideKeys, modest, calm, conditions, laid).
  DERIVED. THE GIVEN ROWS OF THIS SEAT. 11 by the template 'for every input the law returns true; each argument reads behind the call as it read before'; 0 by the template 'total and deterministic' (their statements: YtbedmkcnelbhkaaTotals.lean).
  GIVEN WITH THE SEED: the statements are not yours to turn. If you find one false, say at which input.
  Laid BY PROGRAM, IN A SANDBOX (cutbox-rows.mjs): the forced cells as the released guide's own fill.sh prints them over the translation 157c37d96cf68b66… (all of the seat's roots in one cut). By AI agents, Wed Nov 11 2026. No macro, syntax, notation, axiom, sorry.
-/
import Derived.Test.YtbedmkcnelbhkaaChecked
import GoSem.Claim
import GoSem.ClaimJoined
import GoSem.ClaimMapViews
import Derived.JoinedTies
import Derived.KernelRfl
namespace Go.Proofs.Ytbedmkcnelbhkaa
/- THE CELL 'sum', in the pinned program and in every row, IS THE sha256 OF THE DUMP (.gsa) THAT YtbedmkcnelbhkaaProg.lean LOADS. Nothing in Lean hashes anything: it is a label: what it is worth is what the hold of that sum in a sandbox is worth. -/
noncomputable def Try.pinned : Pinned := { name := "ytbedmkcnelbhkaa", sum := "157c37d96cf68b662d26fac6683d8618e095e284ddc7ecfa2f882950296bdfcc", checked := Try.checked }
namespace Rows
def none {H : Type} : Left H := { results := [], args := [] }

/-- 'laws.FnExactClockValid': WHATEVER THE INPUT: true; the input reads as it did. -/
def fnExactClockValidSpec : ChangeSpec := { name := "fnExactClockValid", fn := fun _ => fun
  | [d] => { results := [.lit (.bool true)], args := [d] }
  | _ => none }
def fnExactClockValidRow : OpenClaim := { program := "ytbedmkcnelbhkaa", sum := "157c37d96cf68b662d26fac6683d8618e095e284ddc7ecfa2f882950296bdfcc", func := "loop.example/historychecker/laws.FnExactClockValid", spec := "fnExactClockValid", unfollowed := true, recurses := true, plainKeys := false, apart := false }
def FnExactClockValidSaid : Prop := fnExactClockValidRow.holds Try.pinned (OpenSpec.ofChange fnExactClockValidSpec)

/-- ITS FALSE NEIGHBOUR: 'it returns false'. Refute it at one input. -/
def fnExactClockValidWrong : ChangeSpec := { name := "fnExactClockValid", fn := fun _ => fun
  | [d] => { results := [.lit (.bool false)], args := [d] }
  | _ => none }
def FnExactClockValidWrongFalsely : Prop := fnExactClockValidRow.holds Try.pinned (OpenSpec.ofChange fnExactClockValidWrong)

/-- 'laws.FnExactClockBefore': WHATEVER THE INPUT: true; the input reads as it did. -/
def fnExactClockBeforeSpec : ChangeSpec := { name := "fnExactClockBefore", fn := fun _ => fun
  | [d1, d2] => { results := [.lit (.bool true)], args := [d1, d2] }
  | _ => none }
def fnExactClockBeforeRow : OpenClaim := { program := "ytbedmkcnelbhkaa", sum := "157c37d96cf68b662d26fac6683d8618e095e284ddc7ecfa2f882950296bdfcc", func := "loop.example/historychecker/laws.FnExactClockBefore", spec := "fnExactClockBefore", unfollowed := true, recurses := true, plainKeys := false, apart := false }
def FnExactClockBeforeSaid : Prop := fnExactClockBeforeRow.holds Try.pinned (OpenSpec.ofChange fnExactClockBeforeSpec)

/-- ITS FALSE NEIGHBOUR: 'it returns false'. Refute it at one input. -/
def fnExactClockBeforeWrong : ChangeSpec := { name := "fnExactClockBefore", fn := fun _ => fun
  | [d1, d2] => { results := [.lit (.bool false)], args := [d1, d2] }
  | _ => none }
def FnExactClockBeforeWrongFalsely : Prop := fnExactClockBeforeRow.holds Try.pinned (OpenSpec.ofChange fnExactClockBeforeWrong)

/-- 'laws.FnExactTallyValid': WHATEVER THE INPUT: true; the input reads as it did. -/
def fnExactTallyValidSpec : ChangeSpec := { name := "fnExactTallyValid", fn := fun _ => fun
  | [d] => { results := [.lit (.bool true)], args := [d] }
  | _ => none }
def fnExactTallyValidRow : OpenClaim := { program := "ytbedmkcnelbhkaa", sum := "157c37d96cf68b662d26fac6683d8618e095e284ddc7ecfa2f882950296bdfcc", func := "loop.example/historychecker/laws.FnExactTallyValid", spec := "fnExactTallyValid", unfollowed := true, recurses := true, plainKeys := false, apart := false }
def FnExactTallyValidSaid : Prop := fnExactTallyValidRow.holds Try.pinned (OpenSpec.ofChange fnExactTallyValidSpec)

/-- ITS FALSE NEIGHBOUR: 'it returns false'. Refute it at one input. -/
def fnExactTallyValidWrong : ChangeSpec := { name := "fnExactTallyValid", fn := fun _ => fun
  | [d] => { results := [.lit (.bool false)], args := [d] }
  | _ => none }
def FnExactTallyValidWrongFalsely : Prop := fnExactTallyValidRow.holds Try.pinned (OpenSpec.ofChange fnExactTallyValidWrong)

/-- 'laws.FnExactClockStep': WHATEVER THE INPUT: true; the input reads as it did. -/
def fnExactClockStepSpec : ChangeSpec := { name := "fnExactClockStep", fn := fun _ => fun
  | [d1, d2] => { results := [.lit (.bool true)], args := [d1, d2] }
  | _ => none }
def fnExactClockStepRow : OpenClaim := { program := "ytbedmkcnelbhkaa", sum := "157c37d96cf68b662d26fac6683d8618e095e284ddc7ecfa2f882950296bdfcc", func := "loop.example/historychecker/laws.FnExactClockStep", spec := "fnExactClockStep", unfollowed := true, recurses := true, plainKeys := false, apart := false }
def FnExactClockStepSaid : Prop := fnExactClockStepRow.holds Try.pinned (OpenSpec.ofChange fnExactClockStepSpec)

/-- ITS FALSE NEIGHBOUR: 'it returns false'. Refute it at one input. -/
def fnExactClockStepWrong : ChangeSpec := { name := "fnExactClockStep", fn := fun _ => fun
  | [d1, d2] => { results := [.lit (.bool false)], args := [d1, d2] }
  | _ => none }
def FnExactClockStepWrongFalsely : Prop := fnExactClockStepRow.holds Try.pinned (OpenSpec.ofChange fnExactClockStepWrong)

/-- 'laws.FnExactClockJoin': WHATEVER THE INPUT: true; the input reads as it did. -/
def fnExactClockJoinSpec : ChangeSpec := { name := "fnExactClockJoin", fn := fun _ => fun
  | [d1, d2] => { results := [.lit (.bool true)], args := [d1, d2] }
  | _ => none }
def fnExactClockJoinRow : OpenClaim := { program := "ytbedmkcnelbhkaa", sum := "157c37d96cf68b662d26fac6683d8618e095e284ddc7ecfa2f882950296bdfcc", func := "loop.example/historychecker/laws.FnExactClockJoin", spec := "fnExactClockJoin", unfollowed := true, recurses := true, plainKeys := false, apart := false }
def FnExactClockJoinSaid : Prop := fnExactClockJoinRow.holds Try.pinned (OpenSpec.ofChange fnExactClockJoinSpec)

/-- ITS FALSE NEIGHBOUR: 'it returns false'. Refute it at one input. -/
def fnExactClockJoinWrong : ChangeSpec := { name := "fnExactClockJoin", fn := fun _ => fun
  | [d1, d2] => { results := [.lit (.bool false)], args := [d1, d2] }
  | _ => none }
def FnExactClockJoinWrongFalsely : Prop := fnExactClockJoinRow.holds Try.pinned (OpenSpec.ofChange fnExactClockJoinWrong)

/-- 'laws.FnExactMayDeliver': WHATEVER THE INPUT: true; the input reads as it did. -/
def fnExactMayDeliverSpec : ChangeSpec := { name := "fnExactMayDeliver", fn := fun _ => fun
  | [d1, d2] => { results := [.lit (.bool true)], args := [d1, d2] }
  | _ => none }
def fnExactMayDeliverRow : OpenClaim := { program := "ytbedmkcnelbhkaa", sum := "157c37d96cf68b662d26fac6683d8618e095e284ddc7ecfa2f882950296bdfcc", func := "loop.example/historychecker/laws.FnExactMayDeliver", spec := "fnExactMayDeliver", unfollowed := true, recurses := true, plainKeys := false, apart := false }
def FnExactMayDeliverSaid : Prop := fnExactMayDeliverRow.holds Try.pinned (OpenSpec.ofChange fnExactMayDeliverSpec)

/-- ITS FALSE NEIGHBOUR: 'it returns false'. Refute it at one input. -/
def fnExactMayDeliverWrong : ChangeSpec := { name := "fnExactMayDeliver", fn := fun _ => fun
  | [d1, d2] => { results := [.lit (.bool false)], args := [d1, d2] }
  | _ => none }
def FnExactMayDeliverWrongFalsely : Prop := fnExactMayDeliverRow.holds Try.pinned (OpenSpec.ofChange fnExactMayDeliverWrong)

/-- 'laws.FnExactTallyOf': WHATEVER THE INPUT: true; the input reads as it did. -/
def fnExactTallyOfSpec : ChangeSpec := { name := "fnExactTallyOf", fn := fun _ => fun
  | [d] => { results := [.lit (.bool true)], args := [d] }
  | _ => none }
def fnExactTallyOfRow : OpenClaim := { program := "ytbedmkcnelbhkaa", sum := "157c37d96cf68b662d26fac6683d8618e095e284ddc7ecfa2f882950296bdfcc", func := "loop.example/historychecker/laws.FnExactTallyOf", spec := "fnExactTallyOf", unfollowed := true, recurses := true, plainKeys := false, apart := false }
def FnExactTallyOfSaid : Prop := fnExactTallyOfRow.holds Try.pinned (OpenSpec.ofChange fnExactTallyOfSpec)

/-- ITS FALSE NEIGHBOUR: 'it returns false'. Refute it at one input. -/
def fnExactTallyOfWrong : ChangeSpec := { name := "fnExactTallyOf", fn := fun _ => fun
  | [d] => { results := [.lit (.bool false)], args := [d] }
  | _ => none }
def FnExactTallyOfWrongFalsely : Prop := fnExactTallyOfRow.holds Try.pinned (OpenSpec.ofChange fnExactTallyOfWrong)

/-- 'laws.FnExactMessagesValid': WHATEVER THE INPUT: true; the input reads as it did. -/
def fnExactMessagesValidSpec : ChangeSpec := { name := "fnExactMessagesValid", fn := fun _ => fun
  | [d] => { results := [.lit (.bool true)], args := [d] }
  | _ => none }
def fnExactMessagesValidRow : OpenClaim := { program := "ytbedmkcnelbhkaa", sum := "157c37d96cf68b662d26fac6683d8618e095e284ddc7ecfa2f882950296bdfcc", func := "loop.example/historychecker/laws.FnExactMessagesValid", spec := "fnExactMessagesValid", unfollowed := true, recurses := true, plainKeys := false, apart := false }
def FnExactMessagesValidSaid : Prop := fnExactMessagesValidRow.holds Try.pinned (OpenSpec.ofChange fnExactMessagesValidSpec)

/-- ITS FALSE NEIGHBOUR: 'it returns false'. Refute it at one input. -/
def fnExactMessagesValidWrong : ChangeSpec := { name := "fnExactMessagesValid", fn := fun _ => fun
  | [d] => { results := [.lit (.bool false)], args := [d] }
  | _ => none }
def FnExactMessagesValidWrongFalsely : Prop := fnExactMessagesValidRow.holds Try.pinned (OpenSpec.ofChange fnExactMessagesValidWrong)

/-- 'laws.FnExactJoinTally': WHATEVER THE INPUT: true; the input reads as it did. -/
def fnExactJoinTallySpec : ChangeSpec := { name := "fnExactJoinTally", fn := fun _ => fun
  | [d1, d2] => { results := [.lit (.bool true)], args := [d1, d2] }
  | _ => none }
def fnExactJoinTallyRow : OpenClaim := { program := "ytbedmkcnelbhkaa", sum := "157c37d96cf68b662d26fac6683d8618e095e284ddc7ecfa2f882950296bdfcc", func := "loop.example/historychecker/laws.FnExactJoinTally", spec := "fnExactJoinTally", unfollowed := true, recurses := true, plainKeys := false, apart := false }
def FnExactJoinTallySaid : Prop := fnExactJoinTallyRow.holds Try.pinned (OpenSpec.ofChange fnExactJoinTallySpec)

/-- ITS FALSE NEIGHBOUR: 'it returns false'. Refute it at one input. -/
def fnExactJoinTallyWrong : ChangeSpec := { name := "fnExactJoinTally", fn := fun _ => fun
  | [d1, d2] => { results := [.lit (.bool false)], args := [d1, d2] }
  | _ => none }
def FnExactJoinTallyWrongFalsely : Prop := fnExactJoinTallyRow.holds Try.pinned (OpenSpec.ofChange fnExactJoinTallyWrong)

/-- 'laws.FnExactCountTally': WHATEVER THE INPUT: true; the input reads as it did. -/
def fnExactCountTallySpec : ChangeSpec := { name := "fnExactCountTally", fn := fun _ => fun
  | [d1, d2, d3] => { results := [.lit (.bool true)], args := [d1, d2, d3] }
  | _ => none }
def fnExactCountTallyRow : OpenClaim := { program := "ytbedmkcnelbhkaa", sum := "157c37d96cf68b662d26fac6683d8618e095e284ddc7ecfa2f882950296bdfcc", func := "loop.example/historychecker/laws.FnExactCountTally", spec := "fnExactCountTally", unfollowed := true, recurses := true, plainKeys := false, apart := false }
def FnExactCountTallySaid : Prop := fnExactCountTallyRow.holds Try.pinned (OpenSpec.ofChange fnExactCountTallySpec)

/-- ITS FALSE NEIGHBOUR: 'it returns false'. Refute it at one input. -/
def fnExactCountTallyWrong : ChangeSpec := { name := "fnExactCountTally", fn := fun _ => fun
  | [d1, d2, d3] => { results := [.lit (.bool false)], args := [d1, d2, d3] }
  | _ => none }
def FnExactCountTallyWrongFalsely : Prop := fnExactCountTallyRow.holds Try.pinned (OpenSpec.ofChange fnExactCountTallyWrong)

/-- 'laws.FnExactDeliverOrder': WHATEVER THE INPUT: true; the input reads as it did. -/
def fnExactDeliverOrderSpec : ChangeSpec := { name := "fnExactDeliverOrder", fn := fun _ => fun
  | [d] => { results := [.lit (.bool true)], args := [d] }
  | _ => none }
def fnExactDeliverOrderRow : OpenClaim := { program := "ytbedmkcnelbhkaa", sum := "157c37d96cf68b662d26fac6683d8618e095e284ddc7ecfa2f882950296bdfcc", func := "loop.example/historychecker/laws.FnExactDeliverOrder", spec := "fnExactDeliverOrder", unfollowed := true, recurses := true, plainKeys := false, apart := false }
def FnExactDeliverOrderSaid : Prop := fnExactDeliverOrderRow.holds Try.pinned (OpenSpec.ofChange fnExactDeliverOrderSpec)

/-- ITS FALSE NEIGHBOUR: 'it returns false'. Refute it at one input. -/
def fnExactDeliverOrderWrong : ChangeSpec := { name := "fnExactDeliverOrder", fn := fun _ => fun
  | [d] => { results := [.lit (.bool false)], args := [d] }
  | _ => none }
def FnExactDeliverOrderWrongFalsely : Prop := fnExactDeliverOrderRow.holds Try.pinned (OpenSpec.ofChange fnExactDeliverOrderWrong)

/- THE SECOND FORM. 'bulk': how many values and letters a reading holds, each counted each time it is reached (what is shared counts as often as it is met; a slice's spare places count too). A statement '..UptoSaid' is the law's where the arguments, and the package variables that the reading takes, are together of bulk at most 1048576: NARROWER than '..Said'. Prove '..Said' where nothing that the law and all that it calls make is longer than what came in: it says more and counts as full. Else prove '..UptoSaid'. A law counts once. -/
mutual
def uptoBulk {H : Type} : DataW H → Nat
  | .lit (.string bytes) => bytes.length + 1
  | .lit _ => 1
  | .nil => 1
  | .ptr d => uptoBulk d + 1
  | .slice elems spare => uptoBulkAll elems + uptoBulkAll spare + 1
  | .agg parts => uptoBulkAll parts + 1
  | .iface _ d => uptoBulk d + 1
  | .map entries => uptoBulkEntries entries + 1
  | .held _ => 1
def uptoBulkAll {H : Type} : List (DataW H) → Nat
  | [] => 0
  | d :: r => uptoBulk d + uptoBulkAll r
def uptoBulkEntries {H : Type} : List (Lit × DataW H) → Nat
  | [] => 0
  | x :: r => uptoBulkEntry x + uptoBulkEntries r
def uptoBulkEntry {H : Type} : Lit × DataW H → Nat
  | (.string bytes, d) => bytes.length + uptoBulk d + 1
  | (_, d) => uptoBulk d + 1
 end
def uptoSmall : (H : Type) → List (DataW H) → Bool := fun _ ds => decide (uptoBulkAll ds ≤ 1048576)
def OpenSpec.upto (s : _root_.Go.ChangeSpec) : _root_.Go.OpenSpec := { _root_.Go.OpenSpec.ofChange s with cond := some uptoSmall }

/-- 'laws.FnExactClockValid', WHERE WHAT IT READS IS OF BULK AT MOST 1048576: true; the input reads as it did. -/
def fnExactClockValidUptoRow : OpenClaim := { program := "ytbedmkcnelbhkaa", sum := "157c37d96cf68b662d26fac6683d8618e095e284ddc7ecfa2f882950296bdfcc", func := "loop.example/historychecker/laws.FnExactClockValid", spec := "fnExactClockValid", unfollowed := true, recurses := true, plainKeys := false, apart := false, narrowed := true }
def FnExactClockValidUptoSaid : Prop := fnExactClockValidUptoRow.holds Try.pinned (OpenSpec.upto fnExactClockValidSpec)

/-- 'laws.FnExactClockBefore', WHERE WHAT IT READS IS OF BULK AT MOST 1048576: true; the input reads as it did. -/
def fnExactClockBeforeUptoRow : OpenClaim := { program := "ytbedmkcnelbhkaa", sum := "157c37d96cf68b662d26fac6683d8618e095e284ddc7ecfa2f882950296bdfcc", func := "loop.example/historychecker/laws.FnExactClockBefore", spec := "fnExactClockBefore", unfollowed := true, recurses := true, plainKeys := false, apart := false, narrowed := true }
def FnExactClockBeforeUptoSaid : Prop := fnExactClockBeforeUptoRow.holds Try.pinned (OpenSpec.upto fnExactClockBeforeSpec)

/-- 'laws.FnExactTallyValid', WHERE WHAT IT READS IS OF BULK AT MOST 1048576: true; the input reads as it did. -/
def fnExactTallyValidUptoRow : OpenClaim := { program := "ytbedmkcnelbhkaa", sum := "157c37d96cf68b662d26fac6683d8618e095e284ddc7ecfa2f882950296bdfcc", func := "loop.example/historychecker/laws.FnExactTallyValid", spec := "fnExactTallyValid", unfollowed := true, recurses := true, plainKeys := false, apart := false, narrowed := true }
def FnExactTallyValidUptoSaid : Prop := fnExactTallyValidUptoRow.holds Try.pinned (OpenSpec.upto fnExactTallyValidSpec)

/-- 'laws.FnExactClockStep', WHERE WHAT IT READS IS OF BULK AT MOST 1048576: true; the input reads as it did. -/
def fnExactClockStepUptoRow : OpenClaim := { program := "ytbedmkcnelbhkaa", sum := "157c37d96cf68b662d26fac6683d8618e095e284ddc7ecfa2f882950296bdfcc", func := "loop.example/historychecker/laws.FnExactClockStep", spec := "fnExactClockStep", unfollowed := true, recurses := true, plainKeys := false, apart := false, narrowed := true }
def FnExactClockStepUptoSaid : Prop := fnExactClockStepUptoRow.holds Try.pinned (OpenSpec.upto fnExactClockStepSpec)

/-- 'laws.FnExactClockJoin', WHERE WHAT IT READS IS OF BULK AT MOST 1048576: true; the input reads as it did. -/
def fnExactClockJoinUptoRow : OpenClaim := { program := "ytbedmkcnelbhkaa", sum := "157c37d96cf68b662d26fac6683d8618e095e284ddc7ecfa2f882950296bdfcc", func := "loop.example/historychecker/laws.FnExactClockJoin", spec := "fnExactClockJoin", unfollowed := true, recurses := true, plainKeys := false, apart := false, narrowed := true }
def FnExactClockJoinUptoSaid : Prop := fnExactClockJoinUptoRow.holds Try.pinned (OpenSpec.upto fnExactClockJoinSpec)

/-- 'laws.FnExactMayDeliver', WHERE WHAT IT READS IS OF BULK AT MOST 1048576: true; the input reads as it did. -/
def fnExactMayDeliverUptoRow : OpenClaim := { program := "ytbedmkcnelbhkaa", sum := "157c37d96cf68b662d26fac6683d8618e095e284ddc7ecfa2f882950296bdfcc", func := "loop.example/historychecker/laws.FnExactMayDeliver", spec := "fnExactMayDeliver", unfollowed := true, recurses := true, plainKeys := false, apart := false, narrowed := true }
def FnExactMayDeliverUptoSaid : Prop := fnExactMayDeliverUptoRow.holds Try.pinned (OpenSpec.upto fnExactMayDeliverSpec)

/-- 'laws.FnExactTallyOf', WHERE WHAT IT READS IS OF BULK AT MOST 1048576: true; the input reads as it did. -/
def fnExactTallyOfUptoRow : OpenClaim := { program := "ytbedmkcnelbhkaa", sum := "157c37d96cf68b662d26fac6683d8618e095e284ddc7ecfa2f882950296bdfcc", func := "loop.example/historychecker/laws.FnExactTallyOf", spec := "fnExactTallyOf", unfollowed := true, recurses := true, plainKeys := false, apart := false, narrowed := true }
def FnExactTallyOfUptoSaid : Prop := fnExactTallyOfUptoRow.holds Try.pinned (OpenSpec.upto fnExactTallyOfSpec)

/-- 'laws.FnExactMessagesValid', WHERE WHAT IT READS IS OF BULK AT MOST 1048576: true; the input reads as it did. -/
def fnExactMessagesValidUptoRow : OpenClaim := { program := "ytbedmkcnelbhkaa", sum := "157c37d96cf68b662d26fac6683d8618e095e284ddc7ecfa2f882950296bdfcc", func := "loop.example/historychecker/laws.FnExactMessagesValid", spec := "fnExactMessagesValid", unfollowed := true, recurses := true, plainKeys := false, apart := false, narrowed := true }
def FnExactMessagesValidUptoSaid : Prop := fnExactMessagesValidUptoRow.holds Try.pinned (OpenSpec.upto fnExactMessagesValidSpec)

/-- 'laws.FnExactJoinTally', WHERE WHAT IT READS IS OF BULK AT MOST 1048576: true; the input reads as it did. -/
def fnExactJoinTallyUptoRow : OpenClaim := { program := "ytbedmkcnelbhkaa", sum := "157c37d96cf68b662d26fac6683d8618e095e284ddc7ecfa2f882950296bdfcc", func := "loop.example/historychecker/laws.FnExactJoinTally", spec := "fnExactJoinTally", unfollowed := true, recurses := true, plainKeys := false, apart := false, narrowed := true }
def FnExactJoinTallyUptoSaid : Prop := fnExactJoinTallyUptoRow.holds Try.pinned (OpenSpec.upto fnExactJoinTallySpec)

/-- 'laws.FnExactCountTally', WHERE WHAT IT READS IS OF BULK AT MOST 1048576: true; the input reads as it did. -/
def fnExactCountTallyUptoRow : OpenClaim := { program := "ytbedmkcnelbhkaa", sum := "157c37d96cf68b662d26fac6683d8618e095e284ddc7ecfa2f882950296bdfcc", func := "loop.example/historychecker/laws.FnExactCountTally", spec := "fnExactCountTally", unfollowed := true, recurses := true, plainKeys := false, apart := false, narrowed := true }
def FnExactCountTallyUptoSaid : Prop := fnExactCountTallyUptoRow.holds Try.pinned (OpenSpec.upto fnExactCountTallySpec)

/-- 'laws.FnExactDeliverOrder', WHERE WHAT IT READS IS OF BULK AT MOST 1048576: true; the input reads as it did. -/
def fnExactDeliverOrderUptoRow : OpenClaim := { program := "ytbedmkcnelbhkaa", sum := "157c37d96cf68b662d26fac6683d8618e095e284ddc7ecfa2f882950296bdfcc", func := "loop.example/historychecker/laws.FnExactDeliverOrder", spec := "fnExactDeliverOrder", unfollowed := true, recurses := true, plainKeys := false, apart := false, narrowed := true }
def FnExactDeliverOrderUptoSaid : Prop := fnExactDeliverOrderUptoRow.holds Try.pinned (OpenSpec.upto fnExactDeliverOrderSpec)

end Rows
end Go.Proofs.Ytbedmkcnelbhkaa
