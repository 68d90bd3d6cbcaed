/-
  No cell of these rows narrows 'for every input' (looked for: loops, veiled, ifaces, maps, wideKeys, modest, calm, conditions, laid).
  DERIVED. THE GIVEN ROWS OF THIS SEAT. 6 by the template 'for every input the law returns true; each argument reads behind the call as it read before'; 0 by the template 'total and deterministic' (their statements: YtiocpkkmkoedmaaTotals.lean).
  GIVEN WITH THE SEED: the statements are not yours to turn. If you find one false, say at which input.
  Laid BY PROGRAM, IN A SANDBOX (cutbox-rows.mjs): the forced cells as the released guide's own fill.sh prints them over the translation e64f05bed49367bb… (all of the seat's roots in one cut). By AI agents, Wed Nov 11 2026. No macro, syntax, notation, axiom, sorry.
-/
import Derived.Test.YtiocpkkmkoedmaaChecked
import GoSem.Claim
import GoSem.ClaimJoined
import GoSem.ClaimMapViews
import Derived.JoinedTies
import Derived.KernelRfl
namespace Go.Proofs.Ytiocpkkmkoedmaa
/- THE CELL 'sum', in the pinned program and in every row, IS THE sha256 OF THE DUMP (.gsa) THAT YtiocpkkmkoedmaaProg.lean LOADS. Nothing in Lean hashes anything: it is a label: what it is worth is what the hold of that sum in a sandbox is worth. -/
noncomputable def Try.pinned : Pinned := { name := "ytiocpkkmkoedmaa", sum := "e64f05bed49367bb0f7d7a2346ec52b77075194989f2553cf0fc49f2c311cdf3", checked := Try.checked }
namespace Rows
def none {H : Type} : Left H := { results := [], args := [] }

/-- 'laws.FnExactLevelText': WHATEVER THE INPUT: true; the input reads as it did. -/
def fnExactLevelTextSpec : ChangeSpec := { name := "fnExactLevelText", fn := fun _ => fun
  | [d] => { results := [.lit (.bool true)], args := [d] }
  | _ => none }
def fnExactLevelTextRow : OpenClaim := { program := "ytiocpkkmkoedmaa", sum := "e64f05bed49367bb0f7d7a2346ec52b77075194989f2553cf0fc49f2c311cdf3", func := "loop.example/historychecker/laws.FnExactLevelText", spec := "fnExactLevelText", apart := false }
def FnExactLevelTextSaid : Prop := fnExactLevelTextRow.holds Try.pinned (OpenSpec.ofChange fnExactLevelTextSpec)

/-- ITS FALSE NEIGHBOUR: 'it returns false'. Refute it at one input. -/
def fnExactLevelTextWrong : ChangeSpec := { name := "fnExactLevelText", fn := fun _ => fun
  | [d] => { results := [.lit (.bool false)], args := [d] }
  | _ => none }
def FnExactLevelTextWrongFalsely : Prop := fnExactLevelTextRow.holds Try.pinned (OpenSpec.ofChange fnExactLevelTextWrong)

/-- 'laws.FnExactStampedValid': WHATEVER THE INPUT: true; the input reads as it did. -/
def fnExactStampedValidSpec : ChangeSpec := { name := "fnExactStampedValid", fn := fun _ => fun
  | [d] => { results := [.lit (.bool true)], args := [d] }
  | _ => none }
def fnExactStampedValidRow : OpenClaim := { program := "ytiocpkkmkoedmaa", sum := "e64f05bed49367bb0f7d7a2346ec52b77075194989f2553cf0fc49f2c311cdf3", func := "loop.example/historychecker/laws.FnExactStampedValid", spec := "fnExactStampedValid", apart := false }
def FnExactStampedValidSaid : Prop := fnExactStampedValidRow.holds Try.pinned (OpenSpec.ofChange fnExactStampedValidSpec)

/-- ITS FALSE NEIGHBOUR: 'it returns false'. Refute it at one input. -/
def fnExactStampedValidWrong : ChangeSpec := { name := "fnExactStampedValid", fn := fun _ => fun
  | [d] => { results := [.lit (.bool false)], args := [d] }
  | _ => none }
def FnExactStampedValidWrongFalsely : Prop := fnExactStampedValidRow.holds Try.pinned (OpenSpec.ofChange fnExactStampedValidWrong)

/-- 'laws.FnExactLaterStamped': WHATEVER THE INPUT: true; the input reads as it did. -/
def fnExactLaterStampedSpec : ChangeSpec := { name := "fnExactLaterStamped", fn := fun _ => fun
  | [d1, d2] => { results := [.lit (.bool true)], args := [d1, d2] }
  | _ => none }
def fnExactLaterStampedRow : OpenClaim := { program := "ytiocpkkmkoedmaa", sum := "e64f05bed49367bb0f7d7a2346ec52b77075194989f2553cf0fc49f2c311cdf3", func := "loop.example/historychecker/laws.FnExactLaterStamped", spec := "fnExactLaterStamped", apart := false }
def FnExactLaterStampedSaid : Prop := fnExactLaterStampedRow.holds Try.pinned (OpenSpec.ofChange fnExactLaterStampedSpec)

/-- ITS FALSE NEIGHBOUR: 'it returns false'. Refute it at one input. -/
def fnExactLaterStampedWrong : ChangeSpec := { name := "fnExactLaterStamped", fn := fun _ => fun
  | [d1, d2] => { results := [.lit (.bool false)], args := [d1, d2] }
  | _ => none }
def FnExactLaterStampedWrongFalsely : Prop := fnExactLaterStampedRow.holds Try.pinned (OpenSpec.ofChange fnExactLaterStampedWrong)

/-- 'laws.FnExactSharedValid': WHATEVER THE INPUT: true; the input reads as it did. -/
def fnExactSharedValidSpec : ChangeSpec := { name := "fnExactSharedValid", fn := fun _ => fun
  | [d] => { results := [.lit (.bool true)], args := [d] }
  | _ => none }
def fnExactSharedValidRow : OpenClaim := { program := "ytiocpkkmkoedmaa", sum := "e64f05bed49367bb0f7d7a2346ec52b77075194989f2553cf0fc49f2c311cdf3", func := "loop.example/historychecker/laws.FnExactSharedValid", spec := "fnExactSharedValid", apart := false }
def FnExactSharedValidSaid : Prop := fnExactSharedValidRow.holds Try.pinned (OpenSpec.ofChange fnExactSharedValidSpec)

/-- ITS FALSE NEIGHBOUR: 'it returns false'. Refute it at one input. -/
def fnExactSharedValidWrong : ChangeSpec := { name := "fnExactSharedValid", fn := fun _ => fun
  | [d] => { results := [.lit (.bool false)], args := [d] }
  | _ => none }
def FnExactSharedValidWrongFalsely : Prop := fnExactSharedValidRow.holds Try.pinned (OpenSpec.ofChange fnExactSharedValidWrong)

/-- 'laws.FnExactLastStamped': WHATEVER THE INPUT: true; the input reads as it did. -/
def fnExactLastStampedSpec : ChangeSpec := { name := "fnExactLastStamped", fn := fun _ => fun
  | [d] => { results := [.lit (.bool true)], args := [d] }
  | _ => none }
def fnExactLastStampedRow : OpenClaim := { program := "ytiocpkkmkoedmaa", sum := "e64f05bed49367bb0f7d7a2346ec52b77075194989f2553cf0fc49f2c311cdf3", func := "loop.example/historychecker/laws.FnExactLastStamped", spec := "fnExactLastStamped", apart := false }
def FnExactLastStampedSaid : Prop := fnExactLastStampedRow.holds Try.pinned (OpenSpec.ofChange fnExactLastStampedSpec)

/-- ITS FALSE NEIGHBOUR: 'it returns false'. Refute it at one input. -/
def fnExactLastStampedWrong : ChangeSpec := { name := "fnExactLastStamped", fn := fun _ => fun
  | [d] => { results := [.lit (.bool false)], args := [d] }
  | _ => none }
def FnExactLastStampedWrongFalsely : Prop := fnExactLastStampedRow.holds Try.pinned (OpenSpec.ofChange fnExactLastStampedWrong)

/-- 'laws.FnExactCountEdges': WHATEVER THE INPUT: true; the input reads as it did. -/
def fnExactCountEdgesSpec : ChangeSpec := { name := "fnExactCountEdges", fn := fun _ => fun
  | [d1, d2] => { results := [.lit (.bool true)], args := [d1, d2] }
  | _ => none }
def fnExactCountEdgesRow : OpenClaim := { program := "ytiocpkkmkoedmaa", sum := "e64f05bed49367bb0f7d7a2346ec52b77075194989f2553cf0fc49f2c311cdf3", func := "loop.example/historychecker/laws.FnExactCountEdges", spec := "fnExactCountEdges", unfollowed := true, recurses := true, apart := false }
def FnExactCountEdgesSaid : Prop := fnExactCountEdgesRow.holds Try.pinned (OpenSpec.ofChange fnExactCountEdgesSpec)

/-- ITS FALSE NEIGHBOUR: 'it returns false'. Refute it at one input. -/
def fnExactCountEdgesWrong : ChangeSpec := { name := "fnExactCountEdges", fn := fun _ => fun
  | [d1, d2] => { results := [.lit (.bool false)], args := [d1, d2] }
  | _ => none }
def FnExactCountEdgesWrongFalsely : Prop := fnExactCountEdgesRow.holds Try.pinned (OpenSpec.ofChange fnExactCountEdgesWrong)

/- THE SECOND FORM. 'bulk': how many values and letters a reading holds, each counted each time it is reached (what is shared counts as often as it is met; a slice's spare places count too). A statement '..UptoSaid' is the law's where the arguments, and the package variables that the reading takes, are together of bulk at most 1048576: NARROWER than '..Said'. Prove '..Said' where nothing that the law and all that it calls make is longer than what came in: it says more and counts as full. Else prove '..UptoSaid'. A law counts once. -/
mutual
def uptoBulk {H : Type} : DataW H → Nat
  | .lit (.string bytes) => bytes.length + 1
  | .lit _ => 1
  | .nil => 1
  | .ptr d => uptoBulk d + 1
  | .slice elems spare => uptoBulkAll elems + uptoBulkAll spare + 1
  | .agg parts => uptoBulkAll parts + 1
  | .iface _ d => uptoBulk d + 1
  | .map entries => uptoBulkEntries entries + 1
  | .held _ => 1
def uptoBulkAll {H : Type} : List (DataW H) → Nat
  | [] => 0
  | d :: r => uptoBulk d + uptoBulkAll r
def uptoBulkEntries {H : Type} : List (Lit × DataW H) → Nat
  | [] => 0
  | x :: r => uptoBulkEntry x + uptoBulkEntries r
def uptoBulkEntry {H : Type} : Lit × DataW H → Nat
  | (.string bytes, d) => bytes.length + uptoBulk d + 1
  | (_, d) => uptoBulk d + 1
 end
def uptoSmall : (H : Type) → List (DataW H) → Bool := fun _ ds => decide (uptoBulkAll ds ≤ 1048576)
def OpenSpec.upto (s : _root_.Go.ChangeSpec) : _root_.Go.OpenSpec := { _root_.Go.OpenSpec.ofChange s with cond := some uptoSmall }

/-- 'laws.FnExactLevelText', WHERE WHAT IT READS IS OF BULK AT MOST 1048576: true; the input reads as it did. -/
def fnExactLevelTextUptoRow : OpenClaim := { program := "ytiocpkkmkoedmaa", sum := "e64f05bed49367bb0f7d7a2346ec52b77075194989f2553cf0fc49f2c311cdf3", func := "loop.example/historychecker/laws.FnExactLevelText", spec := "fnExactLevelText", apart := false, narrowed := true }
def FnExactLevelTextUptoSaid : Prop := fnExactLevelTextUptoRow.holds Try.pinned (OpenSpec.upto fnExactLevelTextSpec)

/-- 'laws.FnExactStampedValid', WHERE WHAT IT READS IS OF BULK AT MOST 1048576: true; the input reads as it did. -/
def fnExactStampedValidUptoRow : OpenClaim := { program := "ytiocpkkmkoedmaa", sum := "e64f05bed49367bb0f7d7a2346ec52b77075194989f2553cf0fc49f2c311cdf3", func := "loop.example/historychecker/laws.FnExactStampedValid", spec := "fnExactStampedValid", apart := false, narrowed := true }
def FnExactStampedValidUptoSaid : Prop := fnExactStampedValidUptoRow.holds Try.pinned (OpenSpec.upto fnExactStampedValidSpec)

/-- 'laws.FnExactLaterStamped', WHERE WHAT IT READS IS OF BULK AT MOST 1048576: true; the input reads as it did. -/
def fnExactLaterStampedUptoRow : OpenClaim := { program := "ytiocpkkmkoedmaa", sum := "e64f05bed49367bb0f7d7a2346ec52b77075194989f2553cf0fc49f2c311cdf3", func := "loop.example/historychecker/laws.FnExactLaterStamped", spec := "fnExactLaterStamped", apart := false, narrowed := true }
def FnExactLaterStampedUptoSaid : Prop := fnExactLaterStampedUptoRow.holds Try.pinned (OpenSpec.upto fnExactLaterStampedSpec)

/-- 'laws.FnExactSharedValid', WHERE WHAT IT READS IS OF BULK AT MOST 1048576: true; the input reads as it did. -/
def fnExactSharedValidUptoRow : OpenClaim := { program := "ytiocpkkmkoedmaa", sum := "e64f05bed49367bb0f7d7a2346ec52b77075194989f2553cf0fc49f2c311cdf3", func := "loop.example/historychecker/laws.FnExactSharedValid", spec := "fnExactSharedValid", apart := false, narrowed := true }
def FnExactSharedValidUptoSaid : Prop := fnExactSharedValidUptoRow.holds Try.pinned (OpenSpec.upto fnExactSharedValidSpec)

/-- 'laws.FnExactLastStamped', WHERE WHAT IT READS IS OF BULK AT MOST 1048576: true; the input reads as it did. -/
def fnExactLastStampedUptoRow : OpenClaim := { program := "ytiocpkkmkoedmaa", sum := "e64f05bed49367bb0f7d7a2346ec52b77075194989f2553cf0fc49f2c311cdf3", func := "loop.example/historychecker/laws.FnExactLastStamped", spec := "fnExactLastStamped", apart := false, narrowed := true }
def FnExactLastStampedUptoSaid : Prop := fnExactLastStampedUptoRow.holds Try.pinned (OpenSpec.upto fnExactLastStampedSpec)

/-- 'laws.FnExactCountEdges', WHERE WHAT IT READS IS OF BULK AT MOST 1048576: true; the input reads as it did. -/
def fnExactCountEdgesUptoRow : OpenClaim := { program := "ytiocpkkmkoedmaa", sum := "e64f05bed49367bb0f7d7a2346ec52b77075194989f2553cf0fc49f2c311cdf3", func := "loop.example/historychecker/laws.FnExactCountEdges", spec := "fnExactCountEdges", unfollowed := true, recurses := true, apart := false, narrowed := true }
def FnExactCountEdgesUptoSaid : Prop := fnExactCountEdgesUptoRow.holds Try.pinned (OpenSpec.upto fnExactCountEdgesSpec)

end Rows
end Go.Proofs.Ytiocpkkmkoedmaa
