/-
  No cell of these rows narrows 'for every input' (looked for: loops, veiled, ifaces, maps, wideKeys, modest, calm, conditions, laid).
  DERIVED. THE GIVEN ROWS OF THIS SEAT. 3 by the template 'for every input the law returns true; each argument reads behind the call as it read before'; 0 by the template 'total and deterministic' (their statements: YtopjdidigfdhbaaTotals.lean).
  GIVEN WITH THE SEED: the statements are not yours to turn. If you find one false, say at which input.
  Laid BY PROGRAM, IN A SANDBOX (cutbox-rows.mjs): the forced cells as the released guide's own fill.sh prints them over the translation 29188d9316071f6c… (all of the seat's roots in one cut). By AI agents, Wed Nov 11 2026. No macro, syntax, notation, axiom, sorry.
-/
import Derived.Test.YtopjdidigfdhbaaChecked
import GoSem.Claim
import GoSem.ClaimJoined
import GoSem.ClaimMapViews
import Derived.JoinedTies
import Derived.KernelRfl
namespace Go.Proofs.Ytopjdidigfdhbaa
/- THE CELL 'sum', in the pinned program and in every row, IS THE sha256 OF THE DUMP (.gsa) THAT YtopjdidigfdhbaaProg.lean LOADS. Nothing in Lean hashes anything: it is a label: what it is worth is what the hold of that sum in a sandbox is worth. -/
noncomputable def Try.pinned : Pinned := { name := "ytopjdidigfdhbaa", sum := "29188d9316071f6c582d5769e41916cefa2d1eef8c9a711b4abd44eb9e96a237", checked := Try.checked }
namespace Rows
def none {H : Type} : Left H := { results := [], args := [] }

/-- 'laws.FnExactJoinTally': WHATEVER THE INPUT: true; the input reads as it did. -/
def fnExactJoinTallySpec : ChangeSpec := { name := "fnExactJoinTally", fn := fun _ => fun
  | [d1, d2] => { results := [.lit (.bool true)], args := [d1, d2] }
  | _ => none }
def fnExactJoinTallyRow : OpenClaim := { program := "ytopjdidigfdhbaa", sum := "29188d9316071f6c582d5769e41916cefa2d1eef8c9a711b4abd44eb9e96a237", func := "loop.example/historychecker/laws.FnExactJoinTally", spec := "fnExactJoinTally", unfollowed := true, recurses := true, plainKeys := false, apart := false }
def FnExactJoinTallySaid : Prop := fnExactJoinTallyRow.holds Try.pinned (OpenSpec.ofChange fnExactJoinTallySpec)

/-- ITS FALSE NEIGHBOUR: 'it returns false'. Refute it at one input. -/
def fnExactJoinTallyWrong : ChangeSpec := { name := "fnExactJoinTally", fn := fun _ => fun
  | [d1, d2] => { results := [.lit (.bool false)], args := [d1, d2] }
  | _ => none }
def FnExactJoinTallyWrongFalsely : Prop := fnExactJoinTallyRow.holds Try.pinned (OpenSpec.ofChange fnExactJoinTallyWrong)

/-- 'laws.FnExactMessagesValid': WHATEVER THE INPUT: true; the input reads as it did. -/
def fnExactMessagesValidSpec : ChangeSpec := { name := "fnExactMessagesValid", fn := fun _ => fun
  | [d] => { results := [.lit (.bool true)], args := [d] }
  | _ => none }
def fnExactMessagesValidRow : OpenClaim := { program := "ytopjdidigfdhbaa", sum := "29188d9316071f6c582d5769e41916cefa2d1eef8c9a711b4abd44eb9e96a237", func := "loop.example/historychecker/laws.FnExactMessagesValid", spec := "fnExactMessagesValid", unfollowed := true, recurses := true, plainKeys := false, apart := false }
def FnExactMessagesValidSaid : Prop := fnExactMessagesValidRow.holds Try.pinned (OpenSpec.ofChange fnExactMessagesValidSpec)

/-- ITS FALSE NEIGHBOUR: 'it returns false'. Refute it at one input. -/
def fnExactMessagesValidWrong : ChangeSpec := { name := "fnExactMessagesValid", fn := fun _ => fun
  | [d] => { results := [.lit (.bool false)], args := [d] }
  | _ => none }
def FnExactMessagesValidWrongFalsely : Prop := fnExactMessagesValidRow.holds Try.pinned (OpenSpec.ofChange fnExactMessagesValidWrong)

/-- 'laws.FnExactDeliverOrder': WHATEVER THE INPUT: true; the input reads as it did. -/
def fnExactDeliverOrderSpec : ChangeSpec := { name := "fnExactDeliverOrder", fn := fun _ => fun
  | [d] => { results := [.lit (.bool true)], args := [d] }
  | _ => none }
def fnExactDeliverOrderRow : OpenClaim := { program := "ytopjdidigfdhbaa", sum := "29188d9316071f6c582d5769e41916cefa2d1eef8c9a711b4abd44eb9e96a237", func := "loop.example/historychecker/laws.FnExactDeliverOrder", spec := "fnExactDeliverOrder", unfollowed := true, recurses := true, plainKeys := false, apart := false }
def FnExactDeliverOrderSaid : Prop := fnExactDeliverOrderRow.holds Try.pinned (OpenSpec.ofChange fnExactDeliverOrderSpec)

/-- ITS FALSE NEIGHBOUR: 'it returns false'. Refute it at one input. -/
def fnExactDeliverOrderWrong : ChangeSpec := { name := "fnExactDeliverOrder", fn := fun _ => fun
  | [d] => { results := [.lit (.bool false)], args := [d] }
  | _ => none }
def FnExactDeliverOrderWrongFalsely : Prop := fnExactDeliverOrderRow.holds Try.pinned (OpenSpec.ofChange fnExactDeliverOrderWrong)

/- THE SECOND FORM. 'bulk': how many values and letters a reading holds, each counted each time it is reached (what is shared counts as often as it is met; a slice's spare places count too). A statement '..UptoSaid' is the law's where the arguments, and the package variables that the reading takes, are together of bulk at most 1048576: NARROWER than '..Said'. Prove '..Said' where nothing that the law and all that it calls make is longer than what came in: it says more and counts as full. Else prove '..UptoSaid'. A law counts once. -/
mutual
def uptoBulk {H : Type} : DataW H → Nat
  | .lit (.string bytes) => bytes.length + 1
  | .lit _ => 1
  | .nil => 1
  | .ptr d => uptoBulk d + 1
  | .slice elems spare => uptoBulkAll elems + uptoBulkAll spare + 1
  | .agg parts => uptoBulkAll parts + 1
  | .iface _ d => uptoBulk d + 1
  | .map entries => uptoBulkEntries entries + 1
  | .held _ => 1
def uptoBulkAll {H : Type} : List (DataW H) → Nat
  | [] => 0
  | d :: r => uptoBulk d + uptoBulkAll r
def uptoBulkEntries {H : Type} : List (Lit × DataW H) → Nat
  | [] => 0
  | x :: r => uptoBulkEntry x + uptoBulkEntries r
def uptoBulkEntry {H : Type} : Lit × DataW H → Nat
  | (.string bytes, d) => bytes.length + uptoBulk d + 1
  | (_, d) => uptoBulk d + 1
 end
def uptoSmall : (H : Type) → List (DataW H) → Bool := fun _ ds => decide (uptoBulkAll ds ≤ 1048576)
def OpenSpec.upto (s : _root_.Go.ChangeSpec) : _root_.Go.OpenSpec := { _root_.Go.OpenSpec.ofChange s with cond := some uptoSmall }

/-- 'laws.FnExactJoinTally', WHERE WHAT IT READS IS OF BULK AT MOST 1048576: true; the input reads as it did. -/
def fnExactJoinTallyUptoRow : OpenClaim := { program := "ytopjdidigfdhbaa", sum := "29188d9316071f6c582d5769e41916cefa2d1eef8c9a711b4abd44eb9e96a237", func := "loop.example/historychecker/laws.FnExactJoinTally", spec := "fnExactJoinTally", unfollowed := true, recurses := true, plainKeys := false, apart := false, narrowed := true }
def FnExactJoinTallyUptoSaid : Prop := fnExactJoinTallyUptoRow.holds Try.pinned (OpenSpec.upto fnExactJoinTallySpec)

/-- 'laws.FnExactMessagesValid', WHERE WHAT IT READS IS OF BULK AT MOST 1048576: true; the input reads as it did. -/
def fnExactMessagesValidUptoRow : OpenClaim := { program := "ytopjdidigfdhbaa", sum := "29188d9316071f6c582d5769e41916cefa2d1eef8c9a711b4abd44eb9e96a237", func := "loop.example/historychecker/laws.FnExactMessagesValid", spec := "fnExactMessagesValid", unfollowed := true, recurses := true, plainKeys := false, apart := false, narrowed := true }
def FnExactMessagesValidUptoSaid : Prop := fnExactMessagesValidUptoRow.holds Try.pinned (OpenSpec.upto fnExactMessagesValidSpec)

/-- 'laws.FnExactDeliverOrder', WHERE WHAT IT READS IS OF BULK AT MOST 1048576: true; the input reads as it did. -/
def fnExactDeliverOrderUptoRow : OpenClaim := { program := "ytopjdidigfdhbaa", sum := "29188d9316071f6c582d5769e41916cefa2d1eef8c9a711b4abd44eb9e96a237", func := "loop.example/historychecker/laws.FnExactDeliverOrder", spec := "fnExactDeliverOrder", unfollowed := true, recurses := true, plainKeys := false, apart := false, narrowed := true }
def FnExactDeliverOrderUptoSaid : Prop := fnExactDeliverOrderUptoRow.holds Try.pinned (OpenSpec.upto fnExactDeliverOrderSpec)

end Rows
end Go.Proofs.Ytopjdidigfdhbaa
