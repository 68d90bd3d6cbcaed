/-
  No cell of these rows narrows 'for every input' (looked for: loops, veiled, ifaces, maps, wideKeys, modest, calm, conditions, laid).
  DERIVED. THE GIVEN ROWS OF THIS SEAT. 4 by the template 'for every input the law returns true; each argument reads behind the call as it read before'; 0 by the template 'total and deterministic' (their statements: YtfcfhgophpoibaaTotals.lean).
  GIVEN WITH THE SEED: the statements are not yours to turn. If you find one false, say at which input.
  Laid BY PROGRAM, IN A SANDBOX (cutbox-rows.mjs): the forced cells as the released guide's own fill.sh prints them over the translation dae82fcc35875045… (all of the seat's roots in one cut). By AI agents, Wed Nov 11 2026. No macro, syntax, notation, axiom, sorry.
-/
import Derived.Test.YtfcfhgophpoibaaChecked
import GoSem.Claim
import GoSem.ClaimJoined
import GoSem.ClaimMapViews
import Derived.JoinedTies
import Derived.KernelRfl
namespace Go.Proofs.Ytfcfhgophpoibaa
/- THE CELL 'sum', in the pinned program and in every row, IS THE sha256 OF THE DUMP (.gsa) THAT YtfcfhgophpoibaaProg.lean LOADS. Nothing in Lean hashes anything: it is a label: what it is worth is what the hold of that sum in a sandbox is worth. -/
noncomputable def Try.pinned : Pinned := { name := "ytfcfhgophpoibaa", sum := "dae82fcc358750456800f95ff196827a8d0620020a80b501fc4eaa1dd31ad97a", checked := Try.checked }
namespace Rows
def none {H : Type} : Left H := { results := [], args := [] }

/-- 'laws.FnExactRunDirty': WHATEVER THE INPUT: true; the input reads as it did. -/
def fnExactRunDirtySpec : ChangeSpec := { name := "fnExactRunDirty", fn := fun _ => fun
  | [d1, d2] => { results := [.lit (.bool true)], args := [d1, d2] }
  | _ => none }
def fnExactRunDirtyRow : OpenClaim := { program := "ytfcfhgophpoibaa", sum := "dae82fcc358750456800f95ff196827a8d0620020a80b501fc4eaa1dd31ad97a", func := "loop.example/historychecker/laws.FnExactRunDirty", spec := "fnExactRunDirty", unfollowed := true, recurses := true, apart := false }
def FnExactRunDirtySaid : Prop := fnExactRunDirtyRow.holds Try.pinned (OpenSpec.ofChange fnExactRunDirtySpec)

/-- ITS FALSE NEIGHBOUR: 'it returns false'. Refute it at one input. -/
def fnExactRunDirtyWrong : ChangeSpec := { name := "fnExactRunDirty", fn := fun _ => fun
  | [d1, d2] => { results := [.lit (.bool false)], args := [d1, d2] }
  | _ => none }
def FnExactRunDirtyWrongFalsely : Prop := fnExactRunDirtyRow.holds Try.pinned (OpenSpec.ofChange fnExactRunDirtyWrong)

/-- 'laws.FnExactRunLocks': WHATEVER THE INPUT: true; the input reads as it did. -/
def fnExactRunLocksSpec : ChangeSpec := { name := "fnExactRunLocks", fn := fun _ => fun
  | [d1, d2] => { results := [.lit (.bool true)], args := [d1, d2] }
  | _ => none }
def fnExactRunLocksRow : OpenClaim := { program := "ytfcfhgophpoibaa", sum := "dae82fcc358750456800f95ff196827a8d0620020a80b501fc4eaa1dd31ad97a", func := "loop.example/historychecker/laws.FnExactRunLocks", spec := "fnExactRunLocks", unfollowed := true, recurses := true, apart := false }
def FnExactRunLocksSaid : Prop := fnExactRunLocksRow.holds Try.pinned (OpenSpec.ofChange fnExactRunLocksSpec)

/-- ITS FALSE NEIGHBOUR: 'it returns false'. Refute it at one input. -/
def fnExactRunLocksWrong : ChangeSpec := { name := "fnExactRunLocks", fn := fun _ => fun
  | [d1, d2] => { results := [.lit (.bool false)], args := [d1, d2] }
  | _ => none }
def FnExactRunLocksWrongFalsely : Prop := fnExactRunLocksRow.holds Try.pinned (OpenSpec.ofChange fnExactRunLocksWrong)

/-- 'laws.FnExactWaitingTxns': WHATEVER THE INPUT: true; the input reads as it did. -/
def fnExactWaitingTxnsSpec : ChangeSpec := { name := "fnExactWaitingTxns", fn := fun _ => fun
  | [d1, d2] => { results := [.lit (.bool true)], args := [d1, d2] }
  | _ => none }
def fnExactWaitingTxnsRow : OpenClaim := { program := "ytfcfhgophpoibaa", sum := "dae82fcc358750456800f95ff196827a8d0620020a80b501fc4eaa1dd31ad97a", func := "loop.example/historychecker/laws.FnExactWaitingTxns", spec := "fnExactWaitingTxns", unfollowed := true, recurses := true, apart := false }
def FnExactWaitingTxnsSaid : Prop := fnExactWaitingTxnsRow.holds Try.pinned (OpenSpec.ofChange fnExactWaitingTxnsSpec)

/-- ITS FALSE NEIGHBOUR: 'it returns false'. Refute it at one input. -/
def fnExactWaitingTxnsWrong : ChangeSpec := { name := "fnExactWaitingTxns", fn := fun _ => fun
  | [d1, d2] => { results := [.lit (.bool false)], args := [d1, d2] }
  | _ => none }
def FnExactWaitingTxnsWrongFalsely : Prop := fnExactWaitingTxnsRow.holds Try.pinned (OpenSpec.ofChange fnExactWaitingTxnsWrong)

/-- 'laws.FnExactRunSnapshots': WHATEVER THE INPUT: true; the input reads as it did. -/
def fnExactRunSnapshotsSpec : ChangeSpec := { name := "fnExactRunSnapshots", fn := fun _ => fun
  | [d1, d2] => { results := [.lit (.bool true)], args := [d1, d2] }
  | _ => none }
def fnExactRunSnapshotsRow : OpenClaim := { program := "ytfcfhgophpoibaa", sum := "dae82fcc358750456800f95ff196827a8d0620020a80b501fc4eaa1dd31ad97a", func := "loop.example/historychecker/laws.FnExactRunSnapshots", spec := "fnExactRunSnapshots", unfollowed := true, recurses := true, apart := false }
def FnExactRunSnapshotsSaid : Prop := fnExactRunSnapshotsRow.holds Try.pinned (OpenSpec.ofChange fnExactRunSnapshotsSpec)

/-- ITS FALSE NEIGHBOUR: 'it returns false'. Refute it at one input. -/
def fnExactRunSnapshotsWrong : ChangeSpec := { name := "fnExactRunSnapshots", fn := fun _ => fun
  | [d1, d2] => { results := [.lit (.bool false)], args := [d1, d2] }
  | _ => none }
def FnExactRunSnapshotsWrongFalsely : Prop := fnExactRunSnapshotsRow.holds Try.pinned (OpenSpec.ofChange fnExactRunSnapshotsWrong)

/- THE SECOND FORM. 'bulk': how many values and letters a reading holds, each counted each time it is reached (what is shared counts as often as it is met; a slice's spare places count too). A statement '..UptoSaid' is the law's where the arguments, and the package variables that the reading takes, are together of bulk at most 1048576: NARROWER than '..Said'. Prove '..Said' where nothing that the law and all that it calls make is longer than what came in: it says more and counts as full. Else prove '..UptoSaid'. A law counts once. -/
mutual
def uptoBulk {H : Type} : DataW H → Nat
  | .lit (.string bytes) => bytes.length + 1
  | .lit _ => 1
  | .nil => 1
  | .ptr d => uptoBulk d + 1
  | .slice elems spare => uptoBulkAll elems + uptoBulkAll spare + 1
  | .agg parts => uptoBulkAll parts + 1
  | .iface _ d => uptoBulk d + 1
  | .map entries => uptoBulkEntries entries + 1
  | .held _ => 1
def uptoBulkAll {H : Type} : List (DataW H) → Nat
  | [] => 0
  | d :: r => uptoBulk d + uptoBulkAll r
def uptoBulkEntries {H : Type} : List (Lit × DataW H) → Nat
  | [] => 0
  | x :: r => uptoBulkEntry x + uptoBulkEntries r
def uptoBulkEntry {H : Type} : Lit × DataW H → Nat
  | (.string bytes, d) => bytes.length + uptoBulk d + 1
  | (_, d) => uptoBulk d + 1
 end
def uptoSmall : (H : Type) → List (DataW H) → Bool := fun _ ds => decide (uptoBulkAll ds ≤ 1048576)
def OpenSpec.upto (s : _root_.Go.ChangeSpec) : _root_.Go.OpenSpec := { _root_.Go.OpenSpec.ofChange s with cond := some uptoSmall }

/-- 'laws.FnExactRunDirty', WHERE WHAT IT READS IS OF BULK AT MOST 1048576: true; the input reads as it did. -/
def fnExactRunDirtyUptoRow : OpenClaim := { program := "ytfcfhgophpoibaa", sum := "dae82fcc358750456800f95ff196827a8d0620020a80b501fc4eaa1dd31ad97a", func := "loop.example/historychecker/laws.FnExactRunDirty", spec := "fnExactRunDirty", unfollowed := true, recurses := true, apart := false, narrowed := true }
def FnExactRunDirtyUptoSaid : Prop := fnExactRunDirtyUptoRow.holds Try.pinned (OpenSpec.upto fnExactRunDirtySpec)

/-- 'laws.FnExactRunLocks', WHERE WHAT IT READS IS OF BULK AT MOST 1048576: true; the input reads as it did. -/
def fnExactRunLocksUptoRow : OpenClaim := { program := "ytfcfhgophpoibaa", sum := "dae82fcc358750456800f95ff196827a8d0620020a80b501fc4eaa1dd31ad97a", func := "loop.example/historychecker/laws.FnExactRunLocks", spec := "fnExactRunLocks", unfollowed := true, recurses := true, apart := false, narrowed := true }
def FnExactRunLocksUptoSaid : Prop := fnExactRunLocksUptoRow.holds Try.pinned (OpenSpec.upto fnExactRunLocksSpec)

/-- 'laws.FnExactWaitingTxns', WHERE WHAT IT READS IS OF BULK AT MOST 1048576: true; the input reads as it did. -/
def fnExactWaitingTxnsUptoRow : OpenClaim := { program := "ytfcfhgophpoibaa", sum := "dae82fcc358750456800f95ff196827a8d0620020a80b501fc4eaa1dd31ad97a", func := "loop.example/historychecker/laws.FnExactWaitingTxns", spec := "fnExactWaitingTxns", unfollowed := true, recurses := true, apart := false, narrowed := true }
def FnExactWaitingTxnsUptoSaid : Prop := fnExactWaitingTxnsUptoRow.holds Try.pinned (OpenSpec.upto fnExactWaitingTxnsSpec)

/-- 'laws.FnExactRunSnapshots', WHERE WHAT IT READS IS OF BULK AT MOST 1048576: true; the input reads as it did. -/
def fnExactRunSnapshotsUptoRow : OpenClaim := { program := "ytfcfhgophpoibaa", sum := "dae82fcc358750456800f95ff196827a8d0620020a80b501fc4eaa1dd31ad97a", func := "loop.example/historychecker/laws.FnExactRunSnapshots", spec := "fnExactRunSnapshots", unfollowed := true, recurses := true, apart := false, narrowed := true }
def FnExactRunSnapshotsUptoSaid : Prop := fnExactRunSnapshotsUptoRow.holds Try.pinned (OpenSpec.upto fnExactRunSnapshotsSpec)

end Rows
end Go.Proofs.Ytfcfhgophpoibaa
