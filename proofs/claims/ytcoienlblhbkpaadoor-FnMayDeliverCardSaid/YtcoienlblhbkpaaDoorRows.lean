/-
  NARROWER THAN 'FOR EVERY INPUT', by the rows' own cells (each row's printed sentence says how): FnExactInShared: laid · FnExactPutShared: laid · FnExactTakeShared: laid · FnExactJoinShared: laid · FnSharedValid: laid · FnMayDeliver: laid · FnPutShared: laid · FnInShared: laid · FnJoinShared: laid.
  DERIVED. THE GIVEN ROWS OF THIS SEAT. 9 by the template 'for every input the law returns true; each argument reads behind the call as it read before'; 0 by the template 'total and deterministic' (their statements: YtcoienlblhbkpaaDoorTotals.lean).
  GIVEN WITH THE SEED: the statements are not yours to turn. If you find one false, say at which input.
  Laid BY PROGRAM, IN A SANDBOX (cutbox-rows.mjs): the forced cells as the released guide's own fill.sh prints them over the translation 9a132cb182bf8eec… (all of the seat's roots in one cut). By AI agents, Wed Nov 11 2026. No macro, syntax, notation, axiom, sorry.
-/
import Derived.Test.YtcoienlblhbkpaaDoorChecked
import GoSem.Claim
import GoSem.ClaimJoined
import GoSem.ClaimMapViews
import Derived.JoinedTies
import Derived.KernelRfl
namespace Go.Proofs.YtcoienlblhbkpaaDoor
/- THE CELL 'sum', in the pinned program and in every row, IS THE sha256 OF THE DUMP (.gsa) THAT YtcoienlblhbkpaaDoorProg.lean LOADS. Nothing in Lean hashes anything: it is a label: what it is worth is what the hold of that sum in a sandbox is worth. -/
noncomputable def Tryd.pinned : Pinned := { name := "ytcoienlblhbkpaadoor", sum := "9a132cb182bf8eec7564ba1f1d8760f0c3d5b5d4597d7053d545a545408900b6", checked := Tryd.checked }
namespace Rows
def none {H : Type} : Left H := { results := [], args := [] }

/- WHAT THE LISTED PACKAGE-LEVEL VARIABLES READ AS WHEN THE CALL BEGINS. Each datum BY PROGRAM (the guide's laid-datum.mjs) off the statement by which the dump's own 'gosem.cut.vars' lays the variable. In a bare row this is a premise. The card (YtcoienlblhbkpaaDoorCards.lean) ties it to the program's text. -/
def laid_math_bits_deBruijn32tab {H : Type} : DataW H := .agg [.lit (.int .u8 0), .lit (.int .u8 1), .lit (.int .u8 28), .lit (.int .u8 2), .lit (.int .u8 29), .lit (.int .u8 14), .lit (.int .u8 24), .lit (.int .u8 3), .lit (.int .u8 30), .lit (.int .u8 22), .lit (.int .u8 20), .lit (.int .u8 15), .lit (.int .u8 25), .lit (.int .u8 17), .lit (.int .u8 4), .lit (.int .u8 8), .lit (.int .u8 31), .lit (.int .u8 27), .lit (.int .u8 13), .lit (.int .u8 23), .lit (.int .u8 21), .lit (.int .u8 19), .lit (.int .u8 16), .lit (.int .u8 7), .lit (.int .u8 26), .lit (.int .u8 12), .lit (.int .u8 18), .lit (.int .u8 6), .lit (.int .u8 11), .lit (.int .u8 5), .lit (.int .u8 10), .lit (.int .u8 9)]
def laid_math_bits_deBruijn64tab {H : Type} : DataW H := .agg [.lit (.int .u8 0), .lit (.int .u8 1), .lit (.int .u8 56), .lit (.int .u8 2), .lit (.int .u8 57), .lit (.int .u8 49), .lit (.int .u8 28), .lit (.int .u8 3), .lit (.int .u8 61), .lit (.int .u8 58), .lit (.int .u8 42), .lit (.int .u8 50), .lit (.int .u8 38), .lit (.int .u8 29), .lit (.int .u8 17), .lit (.int .u8 4), .lit (.int .u8 62), .lit (.int .u8 47), .lit (.int .u8 59), .lit (.int .u8 36), .lit (.int .u8 45), .lit (.int .u8 43), .lit (.int .u8 51), .lit (.int .u8 22), .lit (.int .u8 53), .lit (.int .u8 39), .lit (.int .u8 33), .lit (.int .u8 30), .lit (.int .u8 24), .lit (.int .u8 18), .lit (.int .u8 12), .lit (.int .u8 5), .lit (.int .u8 63), .lit (.int .u8 55), .lit (.int .u8 48), .lit (.int .u8 27), .lit (.int .u8 60), .lit (.int .u8 41), .lit (.int .u8 37), .lit (.int .u8 16), .lit (.int .u8 46), .lit (.int .u8 35), .lit (.int .u8 44), .lit (.int .u8 21), .lit (.int .u8 52), .lit (.int .u8 32), .lit (.int .u8 23), .lit (.int .u8 11), .lit (.int .u8 54), .lit (.int .u8 26), .lit (.int .u8 40), .lit (.int .u8 15), .lit (.int .u8 34), .lit (.int .u8 20), .lit (.int .u8 31), .lit (.int .u8 10), .lit (.int .u8 25), .lit (.int .u8 14), .lit (.int .u8 19), .lit (.int .u8 9), .lit (.int .u8 13), .lit (.int .u8 8), .lit (.int .u8 7), .lit (.int .u8 6)]
def laid_internal_strconv_uint64pow10 {H : Type} : DataW H := .agg [.lit (.int .u64 1), .lit (.int .u64 10), .lit (.int .u64 100), .lit (.int .u64 1000), .lit (.int .u64 10000), .lit (.int .u64 100000), .lit (.int .u64 1000000), .lit (.int .u64 10000000), .lit (.int .u64 100000000), .lit (.int .u64 1000000000), .lit (.int .u64 10000000000), .lit (.int .u64 100000000000), .lit (.int .u64 1000000000000), .lit (.int .u64 10000000000000), .lit (.int .u64 100000000000000), .lit (.int .u64 1000000000000000), .lit (.int .u64 10000000000000000), .lit (.int .u64 100000000000000000), .lit (.int .u64 1000000000000000000), .lit (.int .u64 10000000000000000000)]

/-- 'laws.FnExactInShared': WHATEVER THE INPUT: true; the input reads as it did. -/
def fnExactInSharedSpec : ChangeSpec := { name := "fnExactInShared", fn := fun _ => fun
  | [d] => { results := [.lit (.bool true)], args := [d] }
  | _ => none }
def fnExactInSharedRow : OpenClaim := { program := "ytcoienlblhbkpaadoor", sum := "9a132cb182bf8eec7564ba1f1d8760f0c3d5b5d4597d7053d545a545408900b6", func := "loop.example/historychecker/laws.FnExactInShared", spec := "fnExactInShared", named := ["math/bits.deBruijn32tab", "math/bits.deBruijn64tab"], apart := false, laid := [("math/bits.deBruijn32tab", laid_math_bits_deBruijn32tab), ("math/bits.deBruijn64tab", laid_math_bits_deBruijn64tab)] }
def FnExactInSharedSaid : Prop := fnExactInSharedRow.holds Tryd.pinned (OpenSpec.ofChange fnExactInSharedSpec)

/-- ITS FALSE NEIGHBOUR: 'it returns false'. Refute it at one input. -/
def fnExactInSharedWrong : ChangeSpec := { name := "fnExactInShared", fn := fun _ => fun
  | [d] => { results := [.lit (.bool false)], args := [d] }
  | _ => none }
def FnExactInSharedWrongFalsely : Prop := fnExactInSharedRow.holds Tryd.pinned (OpenSpec.ofChange fnExactInSharedWrong)

/-- 'laws.FnExactPutShared': WHATEVER THE INPUT: true; the input reads as it did. -/
def fnExactPutSharedSpec : ChangeSpec := { name := "fnExactPutShared", fn := fun _ => fun
  | [d1, d2] => { results := [.lit (.bool true)], args := [d1, d2] }
  | _ => none }
def fnExactPutSharedRow : OpenClaim := { program := "ytcoienlblhbkpaadoor", sum := "9a132cb182bf8eec7564ba1f1d8760f0c3d5b5d4597d7053d545a545408900b6", func := "loop.example/historychecker/laws.FnExactPutShared", spec := "fnExactPutShared", named := ["math/bits.deBruijn32tab", "math/bits.deBruijn64tab"], apart := false, laid := [("math/bits.deBruijn32tab", laid_math_bits_deBruijn32tab), ("math/bits.deBruijn64tab", laid_math_bits_deBruijn64tab)] }
def FnExactPutSharedSaid : Prop := fnExactPutSharedRow.holds Tryd.pinned (OpenSpec.ofChange fnExactPutSharedSpec)

/-- ITS FALSE NEIGHBOUR: 'it returns false'. Refute it at one input. -/
def fnExactPutSharedWrong : ChangeSpec := { name := "fnExactPutShared", fn := fun _ => fun
  | [d1, d2] => { results := [.lit (.bool false)], args := [d1, d2] }
  | _ => none }
def FnExactPutSharedWrongFalsely : Prop := fnExactPutSharedRow.holds Tryd.pinned (OpenSpec.ofChange fnExactPutSharedWrong)

/-- 'laws.FnExactTakeShared': WHATEVER THE INPUT: true; the input reads as it did. -/
def fnExactTakeSharedSpec : ChangeSpec := { name := "fnExactTakeShared", fn := fun _ => fun
  | [d1, d2] => { results := [.lit (.bool true)], args := [d1, d2] }
  | _ => none }
def fnExactTakeSharedRow : OpenClaim := { program := "ytcoienlblhbkpaadoor", sum := "9a132cb182bf8eec7564ba1f1d8760f0c3d5b5d4597d7053d545a545408900b6", func := "loop.example/historychecker/laws.FnExactTakeShared", spec := "fnExactTakeShared", named := ["math/bits.deBruijn32tab", "math/bits.deBruijn64tab"], apart := false, laid := [("math/bits.deBruijn32tab", laid_math_bits_deBruijn32tab), ("math/bits.deBruijn64tab", laid_math_bits_deBruijn64tab)] }
def FnExactTakeSharedSaid : Prop := fnExactTakeSharedRow.holds Tryd.pinned (OpenSpec.ofChange fnExactTakeSharedSpec)

/-- ITS FALSE NEIGHBOUR: 'it returns false'. Refute it at one input. -/
def fnExactTakeSharedWrong : ChangeSpec := { name := "fnExactTakeShared", fn := fun _ => fun
  | [d1, d2] => { results := [.lit (.bool false)], args := [d1, d2] }
  | _ => none }
def FnExactTakeSharedWrongFalsely : Prop := fnExactTakeSharedRow.holds Tryd.pinned (OpenSpec.ofChange fnExactTakeSharedWrong)

/-- 'laws.FnExactJoinShared': WHATEVER THE INPUT: true; the input reads as it did. -/
def fnExactJoinSharedSpec : ChangeSpec := { name := "fnExactJoinShared", fn := fun _ => fun
  | [d1, d2] => { results := [.lit (.bool true)], args := [d1, d2] }
  | _ => none }
def fnExactJoinSharedRow : OpenClaim := { program := "ytcoienlblhbkpaadoor", sum := "9a132cb182bf8eec7564ba1f1d8760f0c3d5b5d4597d7053d545a545408900b6", func := "loop.example/historychecker/laws.FnExactJoinShared", spec := "fnExactJoinShared", named := ["math/bits.deBruijn32tab", "math/bits.deBruijn64tab"], apart := false, laid := [("math/bits.deBruijn32tab", laid_math_bits_deBruijn32tab), ("math/bits.deBruijn64tab", laid_math_bits_deBruijn64tab)] }
def FnExactJoinSharedSaid : Prop := fnExactJoinSharedRow.holds Tryd.pinned (OpenSpec.ofChange fnExactJoinSharedSpec)

/-- ITS FALSE NEIGHBOUR: 'it returns false'. Refute it at one input. -/
def fnExactJoinSharedWrong : ChangeSpec := { name := "fnExactJoinShared", fn := fun _ => fun
  | [d1, d2] => { results := [.lit (.bool false)], args := [d1, d2] }
  | _ => none }
def FnExactJoinSharedWrongFalsely : Prop := fnExactJoinSharedRow.holds Tryd.pinned (OpenSpec.ofChange fnExactJoinSharedWrong)

/-- 'laws.FnSharedValid': WHATEVER THE INPUT: true; the input reads as it did. -/
def fnSharedValidSpec : ChangeSpec := { name := "fnSharedValid", fn := fun _ => fun
  | [d] => { results := [.lit (.bool true)], args := [d] }
  | _ => none }
def fnSharedValidRow : OpenClaim := { program := "ytcoienlblhbkpaadoor", sum := "9a132cb182bf8eec7564ba1f1d8760f0c3d5b5d4597d7053d545a545408900b6", func := "loop.example/historychecker/laws.FnSharedValid", spec := "fnSharedValid", named := ["internal/strconv.uint64pow10", "math/bits.deBruijn32tab", "math/bits.deBruijn64tab"], apart := false, laid := [("math/bits.deBruijn32tab", laid_math_bits_deBruijn32tab), ("math/bits.deBruijn64tab", laid_math_bits_deBruijn64tab), ("internal/strconv.uint64pow10", laid_internal_strconv_uint64pow10)] }
def FnSharedValidSaid : Prop := fnSharedValidRow.holds Tryd.pinned (OpenSpec.ofChange fnSharedValidSpec)

/-- ITS FALSE NEIGHBOUR: 'it returns false'. Refute it at one input. -/
def fnSharedValidWrong : ChangeSpec := { name := "fnSharedValid", fn := fun _ => fun
  | [d] => { results := [.lit (.bool false)], args := [d] }
  | _ => none }
def FnSharedValidWrongFalsely : Prop := fnSharedValidRow.holds Tryd.pinned (OpenSpec.ofChange fnSharedValidWrong)

/-- 'laws.FnMayDeliver': WHATEVER THE INPUT: true; the input reads as it did. -/
def fnMayDeliverSpec : ChangeSpec := { name := "fnMayDeliver", fn := fun _ => fun
  | [d] => { results := [.lit (.bool true)], args := [d] }
  | _ => none }
def fnMayDeliverRow : OpenClaim := { program := "ytcoienlblhbkpaadoor", sum := "9a132cb182bf8eec7564ba1f1d8760f0c3d5b5d4597d7053d545a545408900b6", func := "loop.example/historychecker/laws.FnMayDeliver", spec := "fnMayDeliver", unfollowed := true, recurses := true, named := ["internal/strconv.uint64pow10", "math/bits.deBruijn32tab", "math/bits.deBruijn64tab"], apart := false, laid := [("math/bits.deBruijn32tab", laid_math_bits_deBruijn32tab), ("math/bits.deBruijn64tab", laid_math_bits_deBruijn64tab), ("internal/strconv.uint64pow10", laid_internal_strconv_uint64pow10)] }
def FnMayDeliverSaid : Prop := fnMayDeliverRow.holds Tryd.pinned (OpenSpec.ofChange fnMayDeliverSpec)

/-- ITS FALSE NEIGHBOUR: 'it returns false'. Refute it at one input. -/
def fnMayDeliverWrong : ChangeSpec := { name := "fnMayDeliver", fn := fun _ => fun
  | [d] => { results := [.lit (.bool false)], args := [d] }
  | _ => none }
def FnMayDeliverWrongFalsely : Prop := fnMayDeliverRow.holds Tryd.pinned (OpenSpec.ofChange fnMayDeliverWrong)

/-- 'laws.FnPutShared': WHATEVER THE INPUT: true; the input reads as it did. -/
def fnPutSharedSpec : ChangeSpec := { name := "fnPutShared", fn := fun _ => fun
  | [d] => { results := [.lit (.bool true)], args := [d] }
  | _ => none }
def fnPutSharedRow : OpenClaim := { program := "ytcoienlblhbkpaadoor", sum := "9a132cb182bf8eec7564ba1f1d8760f0c3d5b5d4597d7053d545a545408900b6", func := "loop.example/historychecker/laws.FnPutShared", spec := "fnPutShared", named := ["math/bits.deBruijn32tab", "math/bits.deBruijn64tab", "internal/strconv.uint64pow10"], apart := false, laid := [("math/bits.deBruijn32tab", laid_math_bits_deBruijn32tab), ("math/bits.deBruijn64tab", laid_math_bits_deBruijn64tab), ("internal/strconv.uint64pow10", laid_internal_strconv_uint64pow10)] }
def FnPutSharedSaid : Prop := fnPutSharedRow.holds Tryd.pinned (OpenSpec.ofChange fnPutSharedSpec)

/-- ITS FALSE NEIGHBOUR: 'it returns false'. Refute it at one input. -/
def fnPutSharedWrong : ChangeSpec := { name := "fnPutShared", fn := fun _ => fun
  | [d] => { results := [.lit (.bool false)], args := [d] }
  | _ => none }
def FnPutSharedWrongFalsely : Prop := fnPutSharedRow.holds Tryd.pinned (OpenSpec.ofChange fnPutSharedWrong)

/-- 'laws.FnInShared': WHATEVER THE INPUT: true; the input reads as it did. -/
def fnInSharedSpec : ChangeSpec := { name := "fnInShared", fn := fun _ => fun
  | [d] => { results := [.lit (.bool true)], args := [d] }
  | _ => none }
def fnInSharedRow : OpenClaim := { program := "ytcoienlblhbkpaadoor", sum := "9a132cb182bf8eec7564ba1f1d8760f0c3d5b5d4597d7053d545a545408900b6", func := "loop.example/historychecker/laws.FnInShared", spec := "fnInShared", named := ["math/bits.deBruijn32tab", "math/bits.deBruijn64tab", "internal/strconv.uint64pow10"], apart := false, laid := [("math/bits.deBruijn32tab", laid_math_bits_deBruijn32tab), ("math/bits.deBruijn64tab", laid_math_bits_deBruijn64tab), ("internal/strconv.uint64pow10", laid_internal_strconv_uint64pow10)] }
def FnInSharedSaid : Prop := fnInSharedRow.holds Tryd.pinned (OpenSpec.ofChange fnInSharedSpec)

/-- ITS FALSE NEIGHBOUR: 'it returns false'. Refute it at one input. -/
def fnInSharedWrong : ChangeSpec := { name := "fnInShared", fn := fun _ => fun
  | [d] => { results := [.lit (.bool false)], args := [d] }
  | _ => none }
def FnInSharedWrongFalsely : Prop := fnInSharedRow.holds Tryd.pinned (OpenSpec.ofChange fnInSharedWrong)

/-- 'laws.FnJoinShared': WHATEVER THE INPUT: true; the input reads as it did. -/
def fnJoinSharedSpec : ChangeSpec := { name := "fnJoinShared", fn := fun _ => fun
  | [d] => { results := [.lit (.bool true)], args := [d] }
  | _ => none }
def fnJoinSharedRow : OpenClaim := { program := "ytcoienlblhbkpaadoor", sum := "9a132cb182bf8eec7564ba1f1d8760f0c3d5b5d4597d7053d545a545408900b6", func := "loop.example/historychecker/laws.FnJoinShared", spec := "fnJoinShared", named := ["math/bits.deBruijn32tab", "math/bits.deBruijn64tab", "internal/strconv.uint64pow10"], apart := false, laid := [("math/bits.deBruijn32tab", laid_math_bits_deBruijn32tab), ("math/bits.deBruijn64tab", laid_math_bits_deBruijn64tab), ("internal/strconv.uint64pow10", laid_internal_strconv_uint64pow10)] }
def FnJoinSharedSaid : Prop := fnJoinSharedRow.holds Tryd.pinned (OpenSpec.ofChange fnJoinSharedSpec)

/-- ITS FALSE NEIGHBOUR: 'it returns false'. Refute it at one input. -/
def fnJoinSharedWrong : ChangeSpec := { name := "fnJoinShared", fn := fun _ => fun
  | [d] => { results := [.lit (.bool false)], args := [d] }
  | _ => none }
def FnJoinSharedWrongFalsely : Prop := fnJoinSharedRow.holds Tryd.pinned (OpenSpec.ofChange fnJoinSharedWrong)

/- THE SECOND FORM. 'bulk': how many values and letters a reading holds, each counted each time it is reached (what is shared counts as often as it is met; a slice's spare places count too). A statement '..UptoSaid' is the law's where the arguments, and the package variables that the reading takes, are together of bulk at most 1048576: NARROWER than '..Said'. Prove '..Said' where nothing that the law and all that it calls make is longer than what came in: it says more and counts as full. Else prove '..UptoSaid'. A law counts once. -/
mutual
def uptoBulk {H : Type} : DataW H → Nat
  | .lit (.string bytes) => bytes.length + 1
  | .lit _ => 1
  | .nil => 1
  | .ptr d => uptoBulk d + 1
  | .slice elems spare => uptoBulkAll elems + uptoBulkAll spare + 1
  | .agg parts => uptoBulkAll parts + 1
  | .iface _ d => uptoBulk d + 1
  | .map entries => uptoBulkEntries entries + 1
  | .held _ => 1
def uptoBulkAll {H : Type} : List (DataW H) → Nat
  | [] => 0
  | d :: r => uptoBulk d + uptoBulkAll r
def uptoBulkEntries {H : Type} : List (Lit × DataW H) → Nat
  | [] => 0
  | x :: r => uptoBulkEntry x + uptoBulkEntries r
def uptoBulkEntry {H : Type} : Lit × DataW H → Nat
  | (.string bytes, d) => bytes.length + uptoBulk d + 1
  | (_, d) => uptoBulk d + 1
 end
def uptoSmall : (H : Type) → List (DataW H) → Bool := fun _ ds => decide (uptoBulkAll ds ≤ 1048576)
def OpenSpec.upto (s : _root_.Go.ChangeSpec) : _root_.Go.OpenSpec := { _root_.Go.OpenSpec.ofChange s with cond := some uptoSmall }

/-- 'laws.FnExactInShared', WHERE WHAT IT READS IS OF BULK AT MOST 1048576: true; the input reads as it did. -/
def fnExactInSharedUptoRow : OpenClaim := { program := "ytcoienlblhbkpaadoor", sum := "9a132cb182bf8eec7564ba1f1d8760f0c3d5b5d4597d7053d545a545408900b6", func := "loop.example/historychecker/laws.FnExactInShared", spec := "fnExactInShared", named := ["math/bits.deBruijn32tab", "math/bits.deBruijn64tab"], apart := false, laid := [("math/bits.deBruijn32tab", laid_math_bits_deBruijn32tab), ("math/bits.deBruijn64tab", laid_math_bits_deBruijn64tab)], narrowed := true }
def FnExactInSharedUptoSaid : Prop := fnExactInSharedUptoRow.holds Tryd.pinned (OpenSpec.upto fnExactInSharedSpec)

/-- 'laws.FnExactPutShared', WHERE WHAT IT READS IS OF BULK AT MOST 1048576: true; the input reads as it did. -/
def fnExactPutSharedUptoRow : OpenClaim := { program := "ytcoienlblhbkpaadoor", sum := "9a132cb182bf8eec7564ba1f1d8760f0c3d5b5d4597d7053d545a545408900b6", func := "loop.example/historychecker/laws.FnExactPutShared", spec := "fnExactPutShared", named := ["math/bits.deBruijn32tab", "math/bits.deBruijn64tab"], apart := false, laid := [("math/bits.deBruijn32tab", laid_math_bits_deBruijn32tab), ("math/bits.deBruijn64tab", laid_math_bits_deBruijn64tab)], narrowed := true }
def FnExactPutSharedUptoSaid : Prop := fnExactPutSharedUptoRow.holds Tryd.pinned (OpenSpec.upto fnExactPutSharedSpec)

/-- 'laws.FnExactTakeShared', WHERE WHAT IT READS IS OF BULK AT MOST 1048576: true; the input reads as it did. -/
def fnExactTakeSharedUptoRow : OpenClaim := { program := "ytcoienlblhbkpaadoor", sum := "9a132cb182bf8eec7564ba1f1d8760f0c3d5b5d4597d7053d545a545408900b6", func := "loop.example/historychecker/laws.FnExactTakeShared", spec := "fnExactTakeShared", named := ["math/bits.deBruijn32tab", "math/bits.deBruijn64tab"], apart := false, laid := [("math/bits.deBruijn32tab", laid_math_bits_deBruijn32tab), ("math/bits.deBruijn64tab", laid_math_bits_deBruijn64tab)], narrowed := true }
def FnExactTakeSharedUptoSaid : Prop := fnExactTakeSharedUptoRow.holds Tryd.pinned (OpenSpec.upto fnExactTakeSharedSpec)

/-- 'laws.FnExactJoinShared', WHERE WHAT IT READS IS OF BULK AT MOST 1048576: true; the input reads as it did. -/
def fnExactJoinSharedUptoRow : OpenClaim := { program := "ytcoienlblhbkpaadoor", sum := "9a132cb182bf8eec7564ba1f1d8760f0c3d5b5d4597d7053d545a545408900b6", func := "loop.example/historychecker/laws.FnExactJoinShared", spec := "fnExactJoinShared", named := ["math/bits.deBruijn32tab", "math/bits.deBruijn64tab"], apart := false, laid := [("math/bits.deBruijn32tab", laid_math_bits_deBruijn32tab), ("math/bits.deBruijn64tab", laid_math_bits_deBruijn64tab)], narrowed := true }
def FnExactJoinSharedUptoSaid : Prop := fnExactJoinSharedUptoRow.holds Tryd.pinned (OpenSpec.upto fnExactJoinSharedSpec)

/-- 'laws.FnSharedValid', WHERE WHAT IT READS IS OF BULK AT MOST 1048576: true; the input reads as it did. -/
def fnSharedValidUptoRow : OpenClaim := { program := "ytcoienlblhbkpaadoor", sum := "9a132cb182bf8eec7564ba1f1d8760f0c3d5b5d4597d7053d545a545408900b6", func := "loop.example/historychecker/laws.FnSharedValid", spec := "fnSharedValid", named := ["internal/strconv.uint64pow10", "math/bits.deBruijn32tab", "math/bits.deBruijn64tab"], apart := false, laid := [("math/bits.deBruijn32tab", laid_math_bits_deBruijn32tab), ("math/bits.deBruijn64tab", laid_math_bits_deBruijn64tab), ("internal/strconv.uint64pow10", laid_internal_strconv_uint64pow10)], narrowed := true }
def FnSharedValidUptoSaid : Prop := fnSharedValidUptoRow.holds Tryd.pinned (OpenSpec.upto fnSharedValidSpec)

/-- 'laws.FnMayDeliver', WHERE WHAT IT READS IS OF BULK AT MOST 1048576: true; the input reads as it did. -/
def fnMayDeliverUptoRow : OpenClaim := { program := "ytcoienlblhbkpaadoor", sum := "9a132cb182bf8eec7564ba1f1d8760f0c3d5b5d4597d7053d545a545408900b6", func := "loop.example/historychecker/laws.FnMayDeliver", spec := "fnMayDeliver", unfollowed := true, recurses := true, named := ["internal/strconv.uint64pow10", "math/bits.deBruijn32tab", "math/bits.deBruijn64tab"], apart := false, laid := [("math/bits.deBruijn32tab", laid_math_bits_deBruijn32tab), ("math/bits.deBruijn64tab", laid_math_bits_deBruijn64tab), ("internal/strconv.uint64pow10", laid_internal_strconv_uint64pow10)], narrowed := true }
def FnMayDeliverUptoSaid : Prop := fnMayDeliverUptoRow.holds Tryd.pinned (OpenSpec.upto fnMayDeliverSpec)

/-- 'laws.FnPutShared', WHERE WHAT IT READS IS OF BULK AT MOST 1048576: true; the input reads as it did. -/
def fnPutSharedUptoRow : OpenClaim := { program := "ytcoienlblhbkpaadoor", sum := "9a132cb182bf8eec7564ba1f1d8760f0c3d5b5d4597d7053d545a545408900b6", func := "loop.example/historychecker/laws.FnPutShared", spec := "fnPutShared", named := ["math/bits.deBruijn32tab", "math/bits.deBruijn64tab", "internal/strconv.uint64pow10"], apart := false, laid := [("math/bits.deBruijn32tab", laid_math_bits_deBruijn32tab), ("math/bits.deBruijn64tab", laid_math_bits_deBruijn64tab), ("internal/strconv.uint64pow10", laid_internal_strconv_uint64pow10)], narrowed := true }
def FnPutSharedUptoSaid : Prop := fnPutSharedUptoRow.holds Tryd.pinned (OpenSpec.upto fnPutSharedSpec)

/-- 'laws.FnInShared', WHERE WHAT IT READS IS OF BULK AT MOST 1048576: true; the input reads as it did. -/
def fnInSharedUptoRow : OpenClaim := { program := "ytcoienlblhbkpaadoor", sum := "9a132cb182bf8eec7564ba1f1d8760f0c3d5b5d4597d7053d545a545408900b6", func := "loop.example/historychecker/laws.FnInShared", spec := "fnInShared", named := ["math/bits.deBruijn32tab", "math/bits.deBruijn64tab", "internal/strconv.uint64pow10"], apart := false, laid := [("math/bits.deBruijn32tab", laid_math_bits_deBruijn32tab), ("math/bits.deBruijn64tab", laid_math_bits_deBruijn64tab), ("internal/strconv.uint64pow10", laid_internal_strconv_uint64pow10)], narrowed := true }
def FnInSharedUptoSaid : Prop := fnInSharedUptoRow.holds Tryd.pinned (OpenSpec.upto fnInSharedSpec)

/-- 'laws.FnJoinShared', WHERE WHAT IT READS IS OF BULK AT MOST 1048576: true; the input reads as it did. -/
def fnJoinSharedUptoRow : OpenClaim := { program := "ytcoienlblhbkpaadoor", sum := "9a132cb182bf8eec7564ba1f1d8760f0c3d5b5d4597d7053d545a545408900b6", func := "loop.example/historychecker/laws.FnJoinShared", spec := "fnJoinShared", named := ["math/bits.deBruijn32tab", "math/bits.deBruijn64tab", "internal/strconv.uint64pow10"], apart := false, laid := [("math/bits.deBruijn32tab", laid_math_bits_deBruijn32tab), ("math/bits.deBruijn64tab", laid_math_bits_deBruijn64tab), ("internal/strconv.uint64pow10", laid_internal_strconv_uint64pow10)], narrowed := true }
def FnJoinSharedUptoSaid : Prop := fnJoinSharedUptoRow.holds Tryd.pinned (OpenSpec.upto fnJoinSharedSpec)

end Rows
end Go.Proofs.YtcoienlblhbkpaaDoor
