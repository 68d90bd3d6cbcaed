/-
  No cell of these rows narrows 'for every input' (looked for: loops, veiled, ifaces, maps, wideKeys, modest, calm, conditions, laid).
  DERIVED. THE GIVEN ROWS OF THIS SEAT. 5 by the template 'for every input the law returns true; each argument reads behind the call as it read before'; 0 by the template 'total and deterministic' (their statements: YtbhjmfgldmpjoaaTotals.lean).
  GIVEN WITH THE SEED: the statements are not yours to turn. If you find one false, say at which input.
  Laid BY PROGRAM, IN A SANDBOX (cutbox-rows.mjs): the forced cells as the released guide's own fill.sh prints them over the translation 8fa239234585dbad… (all of the seat's roots in one cut). By AI agents, Wed Nov 11 2026. No macro, syntax, notation, axiom, sorry.
-/
import Derived.Test.YtbhjmfgldmpjoaaChecked
import GoSem.Claim
import GoSem.ClaimJoined
import GoSem.ClaimMapViews
import Derived.JoinedTies
import Derived.KernelRfl
namespace Go.Proofs.Ytbhjmfgldmpjoaa
/- THE CELL 'sum', in the pinned program and in every row, IS THE sha256 OF THE DUMP (.gsa) THAT YtbhjmfgldmpjoaaProg.lean LOADS. Nothing in Lean hashes anything: it is a label: what it is worth is what the hold of that sum in a sandbox is worth. -/
noncomputable def Try.pinned : Pinned := { name := "ytbhjmfgldmpjoaa", sum := "8fa239234585dbad89e73498a737c9c5bafa8430d883f418dabd747e1b3c9bfc", checked := Try.checked }
namespace Rows
def none {H : Type} : Left H := { results := [], args := [] }

/-- 'laws.FnExactLastStamped': WHATEVER THE INPUT: true; the input reads as it did. -/
def fnExactLastStampedSpec : ChangeSpec := { name := "fnExactLastStamped", fn := fun _ => fun
  | [d] => { results := [.lit (.bool true)], args := [d] }
  | _ => none }
def fnExactLastStampedRow : OpenClaim := { program := "ytbhjmfgldmpjoaa", sum := "8fa239234585dbad89e73498a737c9c5bafa8430d883f418dabd747e1b3c9bfc", func := "loop.example/historychecker/laws.FnExactLastStamped", spec := "fnExactLastStamped", plainKeys := false, apart := false }
def FnExactLastStampedSaid : Prop := fnExactLastStampedRow.holds Try.pinned (OpenSpec.ofChange fnExactLastStampedSpec)

/-- ITS FALSE NEIGHBOUR: 'it returns false'. Refute it at one input. -/
def fnExactLastStampedWrong : ChangeSpec := { name := "fnExactLastStamped", fn := fun _ => fun
  | [d] => { results := [.lit (.bool false)], args := [d] }
  | _ => none }
def FnExactLastStampedWrongFalsely : Prop := fnExactLastStampedRow.holds Try.pinned (OpenSpec.ofChange fnExactLastStampedWrong)

/-- 'laws.FnExactCountEdges': WHATEVER THE INPUT: true; the input reads as it did. -/
def fnExactCountEdgesSpec : ChangeSpec := { name := "fnExactCountEdges", fn := fun _ => fun
  | [d1, d2] => { results := [.lit (.bool true)], args := [d1, d2] }
  | _ => none }
def fnExactCountEdgesRow : OpenClaim := { program := "ytbhjmfgldmpjoaa", sum := "8fa239234585dbad89e73498a737c9c5bafa8430d883f418dabd747e1b3c9bfc", func := "loop.example/historychecker/laws.FnExactCountEdges", spec := "fnExactCountEdges", unfollowed := true, recurses := true, plainKeys := false, apart := false }
def FnExactCountEdgesSaid : Prop := fnExactCountEdgesRow.holds Try.pinned (OpenSpec.ofChange fnExactCountEdgesSpec)

/-- ITS FALSE NEIGHBOUR: 'it returns false'. Refute it at one input. -/
def fnExactCountEdgesWrong : ChangeSpec := { name := "fnExactCountEdges", fn := fun _ => fun
  | [d1, d2] => { results := [.lit (.bool false)], args := [d1, d2] }
  | _ => none }
def FnExactCountEdgesWrongFalsely : Prop := fnExactCountEdgesRow.holds Try.pinned (OpenSpec.ofChange fnExactCountEdgesWrong)

/-- 'laws.FnExactMayDeliver': WHATEVER THE INPUT: true; the input reads as it did. -/
def fnExactMayDeliverSpec : ChangeSpec := { name := "fnExactMayDeliver", fn := fun _ => fun
  | [d1, d2] => { results := [.lit (.bool true)], args := [d1, d2] }
  | _ => none }
def fnExactMayDeliverRow : OpenClaim := { program := "ytbhjmfgldmpjoaa", sum := "8fa239234585dbad89e73498a737c9c5bafa8430d883f418dabd747e1b3c9bfc", func := "loop.example/historychecker/laws.FnExactMayDeliver", spec := "fnExactMayDeliver", unfollowed := true, recurses := true, plainKeys := false, apart := false }
def FnExactMayDeliverSaid : Prop := fnExactMayDeliverRow.holds Try.pinned (OpenSpec.ofChange fnExactMayDeliverSpec)

/-- ITS FALSE NEIGHBOUR: 'it returns false'. Refute it at one input. -/
def fnExactMayDeliverWrong : ChangeSpec := { name := "fnExactMayDeliver", fn := fun _ => fun
  | [d1, d2] => { results := [.lit (.bool false)], args := [d1, d2] }
  | _ => none }
def FnExactMayDeliverWrongFalsely : Prop := fnExactMayDeliverRow.holds Try.pinned (OpenSpec.ofChange fnExactMayDeliverWrong)

/-- 'laws.FnExactMessagesValid': WHATEVER THE INPUT: true; the input reads as it did. -/
def fnExactMessagesValidSpec : ChangeSpec := { name := "fnExactMessagesValid", fn := fun _ => fun
  | [d] => { results := [.lit (.bool true)], args := [d] }
  | _ => none }
def fnExactMessagesValidRow : OpenClaim := { program := "ytbhjmfgldmpjoaa", sum := "8fa239234585dbad89e73498a737c9c5bafa8430d883f418dabd747e1b3c9bfc", func := "loop.example/historychecker/laws.FnExactMessagesValid", spec := "fnExactMessagesValid", unfollowed := true, recurses := true, plainKeys := false, apart := false }
def FnExactMessagesValidSaid : Prop := fnExactMessagesValidRow.holds Try.pinned (OpenSpec.ofChange fnExactMessagesValidSpec)

/-- ITS FALSE NEIGHBOUR: 'it returns false'. Refute it at one input. -/
def fnExactMessagesValidWrong : ChangeSpec := { name := "fnExactMessagesValid", fn := fun _ => fun
  | [d] => { results := [.lit (.bool false)], args := [d] }
  | _ => none }
def FnExactMessagesValidWrongFalsely : Prop := fnExactMessagesValidRow.holds Try.pinned (OpenSpec.ofChange fnExactMessagesValidWrong)

/-- 'laws.FnExactDeliverOrder': WHATEVER THE INPUT: true; the input reads as it did. -/
def fnExactDeliverOrderSpec : ChangeSpec := { name := "fnExactDeliverOrder", fn := fun _ => fun
  | [d] => { results := [.lit (.bool true)], args := [d] }
  | _ => none }
def fnExactDeliverOrderRow : OpenClaim := { program := "ytbhjmfgldmpjoaa", sum := "8fa239234585dbad89e73498a737c9c5bafa8430d883f418dabd747e1b3c9bfc", func := "loop.example/historychecker/laws.FnExactDeliverOrder", spec := "fnExactDeliverOrder", unfollowed := true, recurses := true, plainKeys := false, apart := false }
def FnExactDeliverOrderSaid : Prop := fnExactDeliverOrderRow.holds Try.pinned (OpenSpec.ofChange fnExactDeliverOrderSpec)

/-- ITS FALSE NEIGHBOUR: 'it returns false'. Refute it at one input. -/
def fnExactDeliverOrderWrong : ChangeSpec := { name := "fnExactDeliverOrder", fn := fun _ => fun
  | [d] => { results := [.lit (.bool false)], args := [d] }
  | _ => none }
def FnExactDeliverOrderWrongFalsely : Prop := fnExactDeliverOrderRow.holds Try.pinned (OpenSpec.ofChange fnExactDeliverOrderWrong)

/- THE SECOND FORM. 'bulk': how many values and letters a reading holds, each counted each time it is reached (what is shared counts as often as it is met; a slice's spare places count too). A statement '..UptoSaid' is the law's where the arguments, and the package variables that the reading takes, are together of bulk at most 1048576: NARROWER than '..Said'. Prove '..Said' where nothing that the law and all that it calls make is longer than what came in: it says more and counts as full. Else prove '..UptoSaid'. A law counts once. -/
mutual
def uptoBulk {H : Type} : DataW H → Nat
  | .lit (.string bytes) => bytes.length + 1
  | .lit _ => 1
  | .nil => 1
  | .ptr d => uptoBulk d + 1
  | .slice elems spare => uptoBulkAll elems + uptoBulkAll spare + 1
  | .agg parts => uptoBulkAll parts + 1
  | .iface _ d => uptoBulk d + 1
  | .map entries => uptoBulkEntries entries + 1
  | .held _ => 1
def uptoBulkAll {H : Type} : List (DataW H) → Nat
  | [] => 0
  | d :: r => uptoBulk d + uptoBulkAll r
def uptoBulkEntries {H : Type} : List (Lit × DataW H) → Nat
  | [] => 0
  | x :: r => uptoBulkEntry x + uptoBulkEntries r
def uptoBulkEntry {H : Type} : Lit × DataW H → Nat
  | (.string bytes, d) => bytes.length + uptoBulk d + 1
  | (_, d) => uptoBulk d + 1
 end
def uptoSmall : (H : Type) → List (DataW H) → Bool := fun _ ds => decide (uptoBulkAll ds ≤ 1048576)
def OpenSpec.upto (s : _root_.Go.ChangeSpec) : _root_.Go.OpenSpec := { _root_.Go.OpenSpec.ofChange s with cond := some uptoSmall }

/-- 'laws.FnExactLastStamped', WHERE WHAT IT READS IS OF BULK AT MOST 1048576: true; the input reads as it did. -/
def fnExactLastStampedUptoRow : OpenClaim := { program := "ytbhjmfgldmpjoaa", sum := "8fa239234585dbad89e73498a737c9c5bafa8430d883f418dabd747e1b3c9bfc", func := "loop.example/historychecker/laws.FnExactLastStamped", spec := "fnExactLastStamped", plainKeys := false, apart := false, narrowed := true }
def FnExactLastStampedUptoSaid : Prop := fnExactLastStampedUptoRow.holds Try.pinned (OpenSpec.upto fnExactLastStampedSpec)

/-- 'laws.FnExactCountEdges', WHERE WHAT IT READS IS OF BULK AT MOST 1048576: true; the input reads as it did. -/
def fnExactCountEdgesUptoRow : OpenClaim := { program := "ytbhjmfgldmpjoaa", sum := "8fa239234585dbad89e73498a737c9c5bafa8430d883f418dabd747e1b3c9bfc", func := "loop.example/historychecker/laws.FnExactCountEdges", spec := "fnExactCountEdges", unfollowed := true, recurses := true, plainKeys := false, apart := false, narrowed := true }
def FnExactCountEdgesUptoSaid : Prop := fnExactCountEdgesUptoRow.holds Try.pinned (OpenSpec.upto fnExactCountEdgesSpec)

/-- 'laws.FnExactMayDeliver', WHERE WHAT IT READS IS OF BULK AT MOST 1048576: true; the input reads as it did. -/
def fnExactMayDeliverUptoRow : OpenClaim := { program := "ytbhjmfgldmpjoaa", sum := "8fa239234585dbad89e73498a737c9c5bafa8430d883f418dabd747e1b3c9bfc", func := "loop.example/historychecker/laws.FnExactMayDeliver", spec := "fnExactMayDeliver", unfollowed := true, recurses := true, plainKeys := false, apart := false, narrowed := true }
def FnExactMayDeliverUptoSaid : Prop := fnExactMayDeliverUptoRow.holds Try.pinned (OpenSpec.upto fnExactMayDeliverSpec)

/-- 'laws.FnExactMessagesValid', WHERE WHAT IT READS IS OF BULK AT MOST 1048576: true; the input reads as it did. -/
def fnExactMessagesValidUptoRow : OpenClaim := { program := "ytbhjmfgldmpjoaa", sum := "8fa239234585dbad89e73498a737c9c5bafa8430d883f418dabd747e1b3c9bfc", func := "loop.example/historychecker/laws.FnExactMessagesValid", spec := "fnExactMessagesValid", unfollowed := true, recurses := true, plainKeys := false, apart := false, narrowed := true }
def FnExactMessagesValidUptoSaid : Prop := fnExactMessagesValidUptoRow.holds Try.pinned (OpenSpec.upto fnExactMessagesValidSpec)

/-- 'laws.FnExactDeliverOrder', WHERE WHAT IT READS IS OF BULK AT MOST 1048576: true; the input reads as it did. -/
def fnExactDeliverOrderUptoRow : OpenClaim := { program := "ytbhjmfgldmpjoaa", sum := "8fa239234585dbad89e73498a737c9c5bafa8430d883f418dabd747e1b3c9bfc", func := "loop.example/historychecker/laws.FnExactDeliverOrder", spec := "fnExactDeliverOrder", unfollowed := true, recurses := true, plainKeys := false, apart := false, narrowed := true }
def FnExactDeliverOrderUptoSaid : Prop := fnExactDeliverOrderUptoRow.holds Try.pinned (OpenSpec.upto fnExactDeliverOrderSpec)

end Rows
end Go.Proofs.Ytbhjmfgldmpjoaa
