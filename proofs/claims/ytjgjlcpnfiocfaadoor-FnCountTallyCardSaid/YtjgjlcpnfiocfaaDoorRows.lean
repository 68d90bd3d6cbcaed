/-
  NARROWER THAN 'FOR EVERY INPUT', by the rows' own cells (each row's printed sentence says how): FnLevelText: laid · FnStampedValid: laid · FnLaterStamped: laid · FnClockValid: laid · FnClockBefore: laid · FnClockStep: laid · FnClockJoin: laid · FnTallyValid: laid · FnTallyOf: laid · FnCountTally: laid · FnJoinTally: laid.
  DERIVED. THE GIVEN ROWS OF THIS SEAT. 11 by the template 'for every input the law returns true; each argument reads behind the call as it read before'; 0 by the template 'total and deterministic' (their statements: YtjgjlcpnfiocfaaDoorTotals.lean).
  GIVEN WITH THE SEED: the statements are not yours to turn. If you find one false, say at which input.
  Laid BY PROGRAM, IN A SANDBOX (cutbox-rows.mjs): the forced cells as the released guide's own fill.sh prints them over the translation 1ec27e07c02e60e6… (all of the seat's roots in one cut). By AI agents, Wed Nov 11 2026. No macro, syntax, notation, axiom, sorry.
-/
import Derived.Test.YtjgjlcpnfiocfaaDoorChecked
import GoSem.Claim
import GoSem.ClaimJoined
import GoSem.ClaimMapViews
import Derived.JoinedTies
import Derived.KernelRfl
namespace Go.Proofs.YtjgjlcpnfiocfaaDoor
/- THE CELL 'sum', in the pinned program and in every row, IS THE sha256 OF THE DUMP (.gsa) THAT YtjgjlcpnfiocfaaDoorProg.lean LOADS. Nothing in Lean hashes anything: it is a label: what it is worth is what the hold of that sum in a sandbox is worth. -/
noncomputable def Tryd.pinned : Pinned := { name := "ytjgjlcpnfiocfaadoor", sum := "1ec27e07c02e60e6c39fa9e2afffead26537c5b7472af09994d345b83dfb6d9f", checked := Tryd.checked }
namespace Rows
def none {H : Type} : Left H := { results := [], args := [] }

/- WHAT THE LISTED PACKAGE-LEVEL VARIABLES READ AS WHEN THE CALL BEGINS. Each datum BY PROGRAM (the guide's laid-datum.mjs) off the statement by which the dump's own 'gosem.cut.vars' lays the variable. In a bare row this is a premise. The card (YtjgjlcpnfiocfaaDoorCards.lean) ties it to the program's text. -/
def laid_math_bits_deBruijn32tab {H : Type} : DataW H := .agg [.lit (.int .u8 0), .lit (.int .u8 1), .lit (.int .u8 28), .lit (.int .u8 2), .lit (.int .u8 29), .lit (.int .u8 14), .lit (.int .u8 24), .lit (.int .u8 3), .lit (.int .u8 30), .lit (.int .u8 22), .lit (.int .u8 20), .lit (.int .u8 15), .lit (.int .u8 25), .lit (.int .u8 17), .lit (.int .u8 4), .lit (.int .u8 8), .lit (.int .u8 31), .lit (.int .u8 27), .lit (.int .u8 13), .lit (.int .u8 23), .lit (.int .u8 21), .lit (.int .u8 19), .lit (.int .u8 16), .lit (.int .u8 7), .lit (.int .u8 26), .lit (.int .u8 12), .lit (.int .u8 18), .lit (.int .u8 6), .lit (.int .u8 11), .lit (.int .u8 5), .lit (.int .u8 10), .lit (.int .u8 9)]
def laid_math_bits_deBruijn64tab {H : Type} : DataW H := .agg [.lit (.int .u8 0), .lit (.int .u8 1), .lit (.int .u8 56), .lit (.int .u8 2), .lit (.int .u8 57), .lit (.int .u8 49), .lit (.int .u8 28), .lit (.int .u8 3), .lit (.int .u8 61), .lit (.int .u8 58), .lit (.int .u8 42), .lit (.int .u8 50), .lit (.int .u8 38), .lit (.int .u8 29), .lit (.int .u8 17), .lit (.int .u8 4), .lit (.int .u8 62), .lit (.int .u8 47), .lit (.int .u8 59), .lit (.int .u8 36), .lit (.int .u8 45), .lit (.int .u8 43), .lit (.int .u8 51), .lit (.int .u8 22), .lit (.int .u8 53), .lit (.int .u8 39), .lit (.int .u8 33), .lit (.int .u8 30), .lit (.int .u8 24), .lit (.int .u8 18), .lit (.int .u8 12), .lit (.int .u8 5), .lit (.int .u8 63), .lit (.int .u8 55), .lit (.int .u8 48), .lit (.int .u8 27), .lit (.int .u8 60), .lit (.int .u8 41), .lit (.int .u8 37), .lit (.int .u8 16), .lit (.int .u8 46), .lit (.int .u8 35), .lit (.int .u8 44), .lit (.int .u8 21), .lit (.int .u8 52), .lit (.int .u8 32), .lit (.int .u8 23), .lit (.int .u8 11), .lit (.int .u8 54), .lit (.int .u8 26), .lit (.int .u8 40), .lit (.int .u8 15), .lit (.int .u8 34), .lit (.int .u8 20), .lit (.int .u8 31), .lit (.int .u8 10), .lit (.int .u8 25), .lit (.int .u8 14), .lit (.int .u8 19), .lit (.int .u8 9), .lit (.int .u8 13), .lit (.int .u8 8), .lit (.int .u8 7), .lit (.int .u8 6)]
def laid_internal_strconv_uint64pow10 {H : Type} : DataW H := .agg [.lit (.int .u64 1), .lit (.int .u64 10), .lit (.int .u64 100), .lit (.int .u64 1000), .lit (.int .u64 10000), .lit (.int .u64 100000), .lit (.int .u64 1000000), .lit (.int .u64 10000000), .lit (.int .u64 100000000), .lit (.int .u64 1000000000), .lit (.int .u64 10000000000), .lit (.int .u64 100000000000), .lit (.int .u64 1000000000000), .lit (.int .u64 10000000000000), .lit (.int .u64 100000000000000), .lit (.int .u64 1000000000000000), .lit (.int .u64 10000000000000000), .lit (.int .u64 100000000000000000), .lit (.int .u64 1000000000000000000), .lit (.int .u64 10000000000000000000)]

/-- 'laws.FnLevelText': WHATEVER THE INPUT: true; the input reads as it did. -/
def fnLevelTextSpec : ChangeSpec := { name := "fnLevelText", fn := fun _ => fun
  | [d] => { results := [.lit (.bool true)], args := [d] }
  | _ => none }
def fnLevelTextRow : OpenClaim := { program := "ytjgjlcpnfiocfaadoor", sum := "1ec27e07c02e60e6c39fa9e2afffead26537c5b7472af09994d345b83dfb6d9f", func := "loop.example/historychecker/laws.FnLevelText", spec := "fnLevelText", named := ["internal/strconv.uint64pow10", "math/bits.deBruijn32tab", "math/bits.deBruijn64tab"], apart := false, laid := [("math/bits.deBruijn32tab", laid_math_bits_deBruijn32tab), ("math/bits.deBruijn64tab", laid_math_bits_deBruijn64tab), ("internal/strconv.uint64pow10", laid_internal_strconv_uint64pow10)] }
def FnLevelTextSaid : Prop := fnLevelTextRow.holds Tryd.pinned (OpenSpec.ofChange fnLevelTextSpec)

/-- ITS FALSE NEIGHBOUR: 'it returns false'. Refute it at one input. -/
def fnLevelTextWrong : ChangeSpec := { name := "fnLevelText", fn := fun _ => fun
  | [d] => { results := [.lit (.bool false)], args := [d] }
  | _ => none }
def FnLevelTextWrongFalsely : Prop := fnLevelTextRow.holds Tryd.pinned (OpenSpec.ofChange fnLevelTextWrong)

/-- 'laws.FnStampedValid': WHATEVER THE INPUT: true; the input reads as it did. -/
def fnStampedValidSpec : ChangeSpec := { name := "fnStampedValid", fn := fun _ => fun
  | [d] => { results := [.lit (.bool true)], args := [d] }
  | _ => none }
def fnStampedValidRow : OpenClaim := { program := "ytjgjlcpnfiocfaadoor", sum := "1ec27e07c02e60e6c39fa9e2afffead26537c5b7472af09994d345b83dfb6d9f", func := "loop.example/historychecker/laws.FnStampedValid", spec := "fnStampedValid", named := ["internal/strconv.uint64pow10", "math/bits.deBruijn32tab", "math/bits.deBruijn64tab"], apart := false, laid := [("math/bits.deBruijn32tab", laid_math_bits_deBruijn32tab), ("math/bits.deBruijn64tab", laid_math_bits_deBruijn64tab), ("internal/strconv.uint64pow10", laid_internal_strconv_uint64pow10)] }
def FnStampedValidSaid : Prop := fnStampedValidRow.holds Tryd.pinned (OpenSpec.ofChange fnStampedValidSpec)

/-- ITS FALSE NEIGHBOUR: 'it returns false'. Refute it at one input. -/
def fnStampedValidWrong : ChangeSpec := { name := "fnStampedValid", fn := fun _ => fun
  | [d] => { results := [.lit (.bool false)], args := [d] }
  | _ => none }
def FnStampedValidWrongFalsely : Prop := fnStampedValidRow.holds Tryd.pinned (OpenSpec.ofChange fnStampedValidWrong)

/-- 'laws.FnLaterStamped': WHATEVER THE INPUT: true; the input reads as it did. -/
def fnLaterStampedSpec : ChangeSpec := { name := "fnLaterStamped", fn := fun _ => fun
  | [d] => { results := [.lit (.bool true)], args := [d] }
  | _ => none }
def fnLaterStampedRow : OpenClaim := { program := "ytjgjlcpnfiocfaadoor", sum := "1ec27e07c02e60e6c39fa9e2afffead26537c5b7472af09994d345b83dfb6d9f", func := "loop.example/historychecker/laws.FnLaterStamped", spec := "fnLaterStamped", named := ["internal/strconv.uint64pow10", "math/bits.deBruijn32tab", "math/bits.deBruijn64tab"], apart := false, laid := [("math/bits.deBruijn32tab", laid_math_bits_deBruijn32tab), ("math/bits.deBruijn64tab", laid_math_bits_deBruijn64tab), ("internal/strconv.uint64pow10", laid_internal_strconv_uint64pow10)] }
def FnLaterStampedSaid : Prop := fnLaterStampedRow.holds Tryd.pinned (OpenSpec.ofChange fnLaterStampedSpec)

/-- ITS FALSE NEIGHBOUR: 'it returns false'. Refute it at one input. -/
def fnLaterStampedWrong : ChangeSpec := { name := "fnLaterStamped", fn := fun _ => fun
  | [d] => { results := [.lit (.bool false)], args := [d] }
  | _ => none }
def FnLaterStampedWrongFalsely : Prop := fnLaterStampedRow.holds Tryd.pinned (OpenSpec.ofChange fnLaterStampedWrong)

/-- 'laws.FnClockValid': WHATEVER THE INPUT: true; the input reads as it did. -/
def fnClockValidSpec : ChangeSpec := { name := "fnClockValid", fn := fun _ => fun
  | [d] => { results := [.lit (.bool true)], args := [d] }
  | _ => none }
def fnClockValidRow : OpenClaim := { program := "ytjgjlcpnfiocfaadoor", sum := "1ec27e07c02e60e6c39fa9e2afffead26537c5b7472af09994d345b83dfb6d9f", func := "loop.example/historychecker/laws.FnClockValid", spec := "fnClockValid", unfollowed := true, recurses := true, named := ["internal/strconv.uint64pow10", "math/bits.deBruijn32tab", "math/bits.deBruijn64tab"], apart := false, laid := [("math/bits.deBruijn32tab", laid_math_bits_deBruijn32tab), ("math/bits.deBruijn64tab", laid_math_bits_deBruijn64tab), ("internal/strconv.uint64pow10", laid_internal_strconv_uint64pow10)] }
def FnClockValidSaid : Prop := fnClockValidRow.holds Tryd.pinned (OpenSpec.ofChange fnClockValidSpec)

/-- ITS FALSE NEIGHBOUR: 'it returns false'. Refute it at one input. -/
def fnClockValidWrong : ChangeSpec := { name := "fnClockValid", fn := fun _ => fun
  | [d] => { results := [.lit (.bool false)], args := [d] }
  | _ => none }
def FnClockValidWrongFalsely : Prop := fnClockValidRow.holds Tryd.pinned (OpenSpec.ofChange fnClockValidWrong)

/-- 'laws.FnClockBefore': WHATEVER THE INPUT: true; the input reads as it did. -/
def fnClockBeforeSpec : ChangeSpec := { name := "fnClockBefore", fn := fun _ => fun
  | [d] => { results := [.lit (.bool true)], args := [d] }
  | _ => none }
def fnClockBeforeRow : OpenClaim := { program := "ytjgjlcpnfiocfaadoor", sum := "1ec27e07c02e60e6c39fa9e2afffead26537c5b7472af09994d345b83dfb6d9f", func := "loop.example/historychecker/laws.FnClockBefore", spec := "fnClockBefore", unfollowed := true, recurses := true, named := ["internal/strconv.uint64pow10", "math/bits.deBruijn32tab", "math/bits.deBruijn64tab"], apart := false, laid := [("math/bits.deBruijn32tab", laid_math_bits_deBruijn32tab), ("math/bits.deBruijn64tab", laid_math_bits_deBruijn64tab), ("internal/strconv.uint64pow10", laid_internal_strconv_uint64pow10)] }
def FnClockBeforeSaid : Prop := fnClockBeforeRow.holds Tryd.pinned (OpenSpec.ofChange fnClockBeforeSpec)

/-- ITS FALSE NEIGHBOUR: 'it returns false'. Refute it at one input. -/
def fnClockBeforeWrong : ChangeSpec := { name := "fnClockBefore", fn := fun _ => fun
  | [d] => { results := [.lit (.bool false)], args := [d] }
  | _ => none }
def FnClockBeforeWrongFalsely : Prop := fnClockBeforeRow.holds Tryd.pinned (OpenSpec.ofChange fnClockBeforeWrong)

/-- 'laws.FnClockStep': WHATEVER THE INPUT: true; the input reads as it did. -/
def fnClockStepSpec : ChangeSpec := { name := "fnClockStep", fn := fun _ => fun
  | [d] => { results := [.lit (.bool true)], args := [d] }
  | _ => none }
def fnClockStepRow : OpenClaim := { program := "ytjgjlcpnfiocfaadoor", sum := "1ec27e07c02e60e6c39fa9e2afffead26537c5b7472af09994d345b83dfb6d9f", func := "loop.example/historychecker/laws.FnClockStep", spec := "fnClockStep", unfollowed := true, recurses := true, named := ["internal/strconv.uint64pow10", "math/bits.deBruijn32tab", "math/bits.deBruijn64tab"], apart := false, laid := [("math/bits.deBruijn32tab", laid_math_bits_deBruijn32tab), ("math/bits.deBruijn64tab", laid_math_bits_deBruijn64tab), ("internal/strconv.uint64pow10", laid_internal_strconv_uint64pow10)] }
def FnClockStepSaid : Prop := fnClockStepRow.holds Tryd.pinned (OpenSpec.ofChange fnClockStepSpec)

/-- ITS FALSE NEIGHBOUR: 'it returns false'. Refute it at one input. -/
def fnClockStepWrong : ChangeSpec := { name := "fnClockStep", fn := fun _ => fun
  | [d] => { results := [.lit (.bool false)], args := [d] }
  | _ => none }
def FnClockStepWrongFalsely : Prop := fnClockStepRow.holds Tryd.pinned (OpenSpec.ofChange fnClockStepWrong)

/-- 'laws.FnClockJoin': WHATEVER THE INPUT: true; the input reads as it did. -/
def fnClockJoinSpec : ChangeSpec := { name := "fnClockJoin", fn := fun _ => fun
  | [d] => { results := [.lit (.bool true)], args := [d] }
  | _ => none }
def fnClockJoinRow : OpenClaim := { program := "ytjgjlcpnfiocfaadoor", sum := "1ec27e07c02e60e6c39fa9e2afffead26537c5b7472af09994d345b83dfb6d9f", func := "loop.example/historychecker/laws.FnClockJoin", spec := "fnClockJoin", unfollowed := true, recurses := true, named := ["internal/strconv.uint64pow10", "math/bits.deBruijn32tab", "math/bits.deBruijn64tab"], apart := false, laid := [("math/bits.deBruijn32tab", laid_math_bits_deBruijn32tab), ("math/bits.deBruijn64tab", laid_math_bits_deBruijn64tab), ("internal/strconv.uint64pow10", laid_internal_strconv_uint64pow10)] }
def FnClockJoinSaid : Prop := fnClockJoinRow.holds Tryd.pinned (OpenSpec.ofChange fnClockJoinSpec)

/-- ITS FALSE NEIGHBOUR: 'it returns false'. Refute it at one input. -/
def fnClockJoinWrong : ChangeSpec := { name := "fnClockJoin", fn := fun _ => fun
  | [d] => { results := [.lit (.bool false)], args := [d] }
  | _ => none }
def FnClockJoinWrongFalsely : Prop := fnClockJoinRow.holds Tryd.pinned (OpenSpec.ofChange fnClockJoinWrong)

/-- 'laws.FnTallyValid': WHATEVER THE INPUT: true; the input reads as it did. -/
def fnTallyValidSpec : ChangeSpec := { name := "fnTallyValid", fn := fun _ => fun
  | [d] => { results := [.lit (.bool true)], args := [d] }
  | _ => none }
def fnTallyValidRow : OpenClaim := { program := "ytjgjlcpnfiocfaadoor", sum := "1ec27e07c02e60e6c39fa9e2afffead26537c5b7472af09994d345b83dfb6d9f", func := "loop.example/historychecker/laws.FnTallyValid", spec := "fnTallyValid", unfollowed := true, recurses := true, named := ["internal/strconv.uint64pow10", "math/bits.deBruijn32tab", "math/bits.deBruijn64tab"], apart := false, laid := [("math/bits.deBruijn32tab", laid_math_bits_deBruijn32tab), ("math/bits.deBruijn64tab", laid_math_bits_deBruijn64tab), ("internal/strconv.uint64pow10", laid_internal_strconv_uint64pow10)] }
def FnTallyValidSaid : Prop := fnTallyValidRow.holds Tryd.pinned (OpenSpec.ofChange fnTallyValidSpec)

/-- ITS FALSE NEIGHBOUR: 'it returns false'. Refute it at one input. -/
def fnTallyValidWrong : ChangeSpec := { name := "fnTallyValid", fn := fun _ => fun
  | [d] => { results := [.lit (.bool false)], args := [d] }
  | _ => none }
def FnTallyValidWrongFalsely : Prop := fnTallyValidRow.holds Tryd.pinned (OpenSpec.ofChange fnTallyValidWrong)

/-- 'laws.FnTallyOf': WHATEVER THE INPUT: true; the input reads as it did. -/
def fnTallyOfSpec : ChangeSpec := { name := "fnTallyOf", fn := fun _ => fun
  | [d] => { results := [.lit (.bool true)], args := [d] }
  | _ => none }
def fnTallyOfRow : OpenClaim := { program := "ytjgjlcpnfiocfaadoor", sum := "1ec27e07c02e60e6c39fa9e2afffead26537c5b7472af09994d345b83dfb6d9f", func := "loop.example/historychecker/laws.FnTallyOf", spec := "fnTallyOf", unfollowed := true, recurses := true, named := ["internal/strconv.uint64pow10", "math/bits.deBruijn32tab", "math/bits.deBruijn64tab"], apart := false, laid := [("math/bits.deBruijn32tab", laid_math_bits_deBruijn32tab), ("math/bits.deBruijn64tab", laid_math_bits_deBruijn64tab), ("internal/strconv.uint64pow10", laid_internal_strconv_uint64pow10)] }
def FnTallyOfSaid : Prop := fnTallyOfRow.holds Tryd.pinned (OpenSpec.ofChange fnTallyOfSpec)

/-- ITS FALSE NEIGHBOUR: 'it returns false'. Refute it at one input. -/
def fnTallyOfWrong : ChangeSpec := { name := "fnTallyOf", fn := fun _ => fun
  | [d] => { results := [.lit (.bool false)], args := [d] }
  | _ => none }
def FnTallyOfWrongFalsely : Prop := fnTallyOfRow.holds Tryd.pinned (OpenSpec.ofChange fnTallyOfWrong)

/-- 'laws.FnCountTally': WHATEVER THE INPUT: true; the input reads as it did. -/
def fnCountTallySpec : ChangeSpec := { name := "fnCountTally", fn := fun _ => fun
  | [d] => { results := [.lit (.bool true)], args := [d] }
  | _ => none }
def fnCountTallyRow : OpenClaim := { program := "ytjgjlcpnfiocfaadoor", sum := "1ec27e07c02e60e6c39fa9e2afffead26537c5b7472af09994d345b83dfb6d9f", func := "loop.example/historychecker/laws.FnCountTally", spec := "fnCountTally", unfollowed := true, recurses := true, named := ["internal/strconv.uint64pow10", "math/bits.deBruijn32tab", "math/bits.deBruijn64tab"], apart := false, laid := [("math/bits.deBruijn32tab", laid_math_bits_deBruijn32tab), ("math/bits.deBruijn64tab", laid_math_bits_deBruijn64tab), ("internal/strconv.uint64pow10", laid_internal_strconv_uint64pow10)] }
def FnCountTallySaid : Prop := fnCountTallyRow.holds Tryd.pinned (OpenSpec.ofChange fnCountTallySpec)

/-- ITS FALSE NEIGHBOUR: 'it returns false'. Refute it at one input. -/
def fnCountTallyWrong : ChangeSpec := { name := "fnCountTally", fn := fun _ => fun
  | [d] => { results := [.lit (.bool false)], args := [d] }
  | _ => none }
def FnCountTallyWrongFalsely : Prop := fnCountTallyRow.holds Tryd.pinned (OpenSpec.ofChange fnCountTallyWrong)

/-- 'laws.FnJoinTally': WHATEVER THE INPUT: true; the input reads as it did. -/
def fnJoinTallySpec : ChangeSpec := { name := "fnJoinTally", fn := fun _ => fun
  | [d] => { results := [.lit (.bool true)], args := [d] }
  | _ => none }
def fnJoinTallyRow : OpenClaim := { program := "ytjgjlcpnfiocfaadoor", sum := "1ec27e07c02e60e6c39fa9e2afffead26537c5b7472af09994d345b83dfb6d9f", func := "loop.example/historychecker/laws.FnJoinTally", spec := "fnJoinTally", unfollowed := true, recurses := true, named := ["internal/strconv.uint64pow10", "math/bits.deBruijn32tab", "math/bits.deBruijn64tab"], apart := false, laid := [("math/bits.deBruijn32tab", laid_math_bits_deBruijn32tab), ("math/bits.deBruijn64tab", laid_math_bits_deBruijn64tab), ("internal/strconv.uint64pow10", laid_internal_strconv_uint64pow10)] }
def FnJoinTallySaid : Prop := fnJoinTallyRow.holds Tryd.pinned (OpenSpec.ofChange fnJoinTallySpec)

/-- ITS FALSE NEIGHBOUR: 'it returns false'. Refute it at one input. -/
def fnJoinTallyWrong : ChangeSpec := { name := "fnJoinTally", fn := fun _ => fun
  | [d] => { results := [.lit (.bool false)], args := [d] }
  | _ => none }
def FnJoinTallyWrongFalsely : Prop := fnJoinTallyRow.holds Tryd.pinned (OpenSpec.ofChange fnJoinTallyWrong)

/- THE SECOND FORM. 'bulk': how many values and letters a reading holds, each counted each time it is reached (what is shared counts as often as it is met; a slice's spare places count too). A statement '..UptoSaid' is the law's where the arguments, and the package variables that the reading takes, are together of bulk at most 1048576: NARROWER than '..Said'. Prove '..Said' where nothing that the law and all that it calls make is longer than what came in: it says more and counts as full. Else prove '..UptoSaid'. A law counts once. -/
mutual
def uptoBulk {H : Type} : DataW H → Nat
  | .lit (.string bytes) => bytes.length + 1
  | .lit _ => 1
  | .nil => 1
  | .ptr d => uptoBulk d + 1
  | .slice elems spare => uptoBulkAll elems + uptoBulkAll spare + 1
  | .agg parts => uptoBulkAll parts + 1
  | .iface _ d => uptoBulk d + 1
  | .map entries => uptoBulkEntries entries + 1
  | .held _ => 1
def uptoBulkAll {H : Type} : List (DataW H) → Nat
  | [] => 0
  | d :: r => uptoBulk d + uptoBulkAll r
def uptoBulkEntries {H : Type} : List (Lit × DataW H) → Nat
  | [] => 0
  | x :: r => uptoBulkEntry x + uptoBulkEntries r
def uptoBulkEntry {H : Type} : Lit × DataW H → Nat
  | (.string bytes, d) => bytes.length + uptoBulk d + 1
  | (_, d) => uptoBulk d + 1
 end
def uptoSmall : (H : Type) → List (DataW H) → Bool := fun _ ds => decide (uptoBulkAll ds ≤ 1048576)
def OpenSpec.upto (s : _root_.Go.ChangeSpec) : _root_.Go.OpenSpec := { _root_.Go.OpenSpec.ofChange s with cond := some uptoSmall }

/-- 'laws.FnLevelText', WHERE WHAT IT READS IS OF BULK AT MOST 1048576: true; the input reads as it did. -/
def fnLevelTextUptoRow : OpenClaim := { program := "ytjgjlcpnfiocfaadoor", sum := "1ec27e07c02e60e6c39fa9e2afffead26537c5b7472af09994d345b83dfb6d9f", func := "loop.example/historychecker/laws.FnLevelText", spec := "fnLevelText", named := ["internal/strconv.uint64pow10", "math/bits.deBruijn32tab", "math/bits.deBruijn64tab"], apart := false, laid := [("math/bits.deBruijn32tab", laid_math_bits_deBruijn32tab), ("math/bits.deBruijn64tab", laid_math_bits_deBruijn64tab), ("internal/strconv.uint64pow10", laid_internal_strconv_uint64pow10)], narrowed := true }
def FnLevelTextUptoSaid : Prop := fnLevelTextUptoRow.holds Tryd.pinned (OpenSpec.upto fnLevelTextSpec)

/-- 'laws.FnStampedValid', WHERE WHAT IT READS IS OF BULK AT MOST 1048576: true; the input reads as it did. -/
def fnStampedValidUptoRow : OpenClaim := { program := "ytjgjlcpnfiocfaadoor", sum := "1ec27e07c02e60e6c39fa9e2afffead26537c5b7472af09994d345b83dfb6d9f", func := "loop.example/historychecker/laws.FnStampedValid", spec := "fnStampedValid", named := ["internal/strconv.uint64pow10", "math/bits.deBruijn32tab", "math/bits.deBruijn64tab"], apart := false, laid := [("math/bits.deBruijn32tab", laid_math_bits_deBruijn32tab), ("math/bits.deBruijn64tab", laid_math_bits_deBruijn64tab), ("internal/strconv.uint64pow10", laid_internal_strconv_uint64pow10)], narrowed := true }
def FnStampedValidUptoSaid : Prop := fnStampedValidUptoRow.holds Tryd.pinned (OpenSpec.upto fnStampedValidSpec)

/-- 'laws.FnLaterStamped', WHERE WHAT IT READS IS OF BULK AT MOST 1048576: true; the input reads as it did. -/
def fnLaterStampedUptoRow : OpenClaim := { program := "ytjgjlcpnfiocfaadoor", sum := "1ec27e07c02e60e6c39fa9e2afffead26537c5b7472af09994d345b83dfb6d9f", func := "loop.example/historychecker/laws.FnLaterStamped", spec := "fnLaterStamped", named := ["internal/strconv.uint64pow10", "math/bits.deBruijn32tab", "math/bits.deBruijn64tab"], apart := false, laid := [("math/bits.deBruijn32tab", laid_math_bits_deBruijn32tab), ("math/bits.deBruijn64tab", laid_math_bits_deBruijn64tab), ("internal/strconv.uint64pow10", laid_internal_strconv_uint64pow10)], narrowed := true }
def FnLaterStampedUptoSaid : Prop := fnLaterStampedUptoRow.holds Tryd.pinned (OpenSpec.upto fnLaterStampedSpec)

/-- 'laws.FnClockValid', WHERE WHAT IT READS IS OF BULK AT MOST 1048576: true; the input reads as it did. -/
def fnClockValidUptoRow : OpenClaim := { program := "ytjgjlcpnfiocfaadoor", sum := "1ec27e07c02e60e6c39fa9e2afffead26537c5b7472af09994d345b83dfb6d9f", func := "loop.example/historychecker/laws.FnClockValid", spec := "fnClockValid", unfollowed := true, recurses := true, named := ["internal/strconv.uint64pow10", "math/bits.deBruijn32tab", "math/bits.deBruijn64tab"], apart := false, laid := [("math/bits.deBruijn32tab", laid_math_bits_deBruijn32tab), ("math/bits.deBruijn64tab", laid_math_bits_deBruijn64tab), ("internal/strconv.uint64pow10", laid_internal_strconv_uint64pow10)], narrowed := true }
def FnClockValidUptoSaid : Prop := fnClockValidUptoRow.holds Tryd.pinned (OpenSpec.upto fnClockValidSpec)

/-- 'laws.FnClockBefore', WHERE WHAT IT READS IS OF BULK AT MOST 1048576: true; the input reads as it did. -/
def fnClockBeforeUptoRow : OpenClaim := { program := "ytjgjlcpnfiocfaadoor", sum := "1ec27e07c02e60e6c39fa9e2afffead26537c5b7472af09994d345b83dfb6d9f", func := "loop.example/historychecker/laws.FnClockBefore", spec := "fnClockBefore", unfollowed := true, recurses := true, named := ["internal/strconv.uint64pow10", "math/bits.deBruijn32tab", "math/bits.deBruijn64tab"], apart := false, laid := [("math/bits.deBruijn32tab", laid_math_bits_deBruijn32tab), ("math/bits.deBruijn64tab", laid_math_bits_deBruijn64tab), ("internal/strconv.uint64pow10", laid_internal_strconv_uint64pow10)], narrowed := true }
def FnClockBeforeUptoSaid : Prop := fnClockBeforeUptoRow.holds Tryd.pinned (OpenSpec.upto fnClockBeforeSpec)

/-- 'laws.FnClockStep', WHERE WHAT IT READS IS OF BULK AT MOST 1048576: true; the input reads as it did. -/
def fnClockStepUptoRow : OpenClaim := { program := "ytjgjlcpnfiocfaadoor", sum := "1ec27e07c02e60e6c39fa9e2afffead26537c5b7472af09994d345b83dfb6d9f", func := "loop.example/historychecker/laws.FnClockStep", spec := "fnClockStep", unfollowed := true, recurses := true, named := ["internal/strconv.uint64pow10", "math/bits.deBruijn32tab", "math/bits.deBruijn64tab"], apart := false, laid := [("math/bits.deBruijn32tab", laid_math_bits_deBruijn32tab), ("math/bits.deBruijn64tab", laid_math_bits_deBruijn64tab), ("internal/strconv.uint64pow10", laid_internal_strconv_uint64pow10)], narrowed := true }
def FnClockStepUptoSaid : Prop := fnClockStepUptoRow.holds Tryd.pinned (OpenSpec.upto fnClockStepSpec)

/-- 'laws.FnClockJoin', WHERE WHAT IT READS IS OF BULK AT MOST 1048576: true; the input reads as it did. -/
def fnClockJoinUptoRow : OpenClaim := { program := "ytjgjlcpnfiocfaadoor", sum := "1ec27e07c02e60e6c39fa9e2afffead26537c5b7472af09994d345b83dfb6d9f", func := "loop.example/historychecker/laws.FnClockJoin", spec := "fnClockJoin", unfollowed := true, recurses := true, named := ["internal/strconv.uint64pow10", "math/bits.deBruijn32tab", "math/bits.deBruijn64tab"], apart := false, laid := [("math/bits.deBruijn32tab", laid_math_bits_deBruijn32tab), ("math/bits.deBruijn64tab", laid_math_bits_deBruijn64tab), ("internal/strconv.uint64pow10", laid_internal_strconv_uint64pow10)], narrowed := true }
def FnClockJoinUptoSaid : Prop := fnClockJoinUptoRow.holds Tryd.pinned (OpenSpec.upto fnClockJoinSpec)

/-- 'laws.FnTallyValid', WHERE WHAT IT READS IS OF BULK AT MOST 1048576: true; the input reads as it did. -/
def fnTallyValidUptoRow : OpenClaim := { program := "ytjgjlcpnfiocfaadoor", sum := "1ec27e07c02e60e6c39fa9e2afffead26537c5b7472af09994d345b83dfb6d9f", func := "loop.example/historychecker/laws.FnTallyValid", spec := "fnTallyValid", unfollowed := true, recurses := true, named := ["internal/strconv.uint64pow10", "math/bits.deBruijn32tab", "math/bits.deBruijn64tab"], apart := false, laid := [("math/bits.deBruijn32tab", laid_math_bits_deBruijn32tab), ("math/bits.deBruijn64tab", laid_math_bits_deBruijn64tab), ("internal/strconv.uint64pow10", laid_internal_strconv_uint64pow10)], narrowed := true }
def FnTallyValidUptoSaid : Prop := fnTallyValidUptoRow.holds Tryd.pinned (OpenSpec.upto fnTallyValidSpec)

/-- 'laws.FnTallyOf', WHERE WHAT IT READS IS OF BULK AT MOST 1048576: true; the input reads as it did. -/
def fnTallyOfUptoRow : OpenClaim := { program := "ytjgjlcpnfiocfaadoor", sum := "1ec27e07c02e60e6c39fa9e2afffead26537c5b7472af09994d345b83dfb6d9f", func := "loop.example/historychecker/laws.FnTallyOf", spec := "fnTallyOf", unfollowed := true, recurses := true, named := ["internal/strconv.uint64pow10", "math/bits.deBruijn32tab", "math/bits.deBruijn64tab"], apart := false, laid := [("math/bits.deBruijn32tab", laid_math_bits_deBruijn32tab), ("math/bits.deBruijn64tab", laid_math_bits_deBruijn64tab), ("internal/strconv.uint64pow10", laid_internal_strconv_uint64pow10)], narrowed := true }
def FnTallyOfUptoSaid : Prop := fnTallyOfUptoRow.holds Tryd.pinned (OpenSpec.upto fnTallyOfSpec)

/-- 'laws.FnCountTally', WHERE WHAT IT READS IS OF BULK AT MOST 1048576: true; the input reads as it did. -/
def fnCountTallyUptoRow : OpenClaim := { program := "ytjgjlcpnfiocfaadoor", sum := "1ec27e07c02e60e6c39fa9e2afffead26537c5b7472af09994d345b83dfb6d9f", func := "loop.example/historychecker/laws.FnCountTally", spec := "fnCountTally", unfollowed := true, recurses := true, named := ["internal/strconv.uint64pow10", "math/bits.deBruijn32tab", "math/bits.deBruijn64tab"], apart := false, laid := [("math/bits.deBruijn32tab", laid_math_bits_deBruijn32tab), ("math/bits.deBruijn64tab", laid_math_bits_deBruijn64tab), ("internal/strconv.uint64pow10", laid_internal_strconv_uint64pow10)], narrowed := true }
def FnCountTallyUptoSaid : Prop := fnCountTallyUptoRow.holds Tryd.pinned (OpenSpec.upto fnCountTallySpec)

/-- 'laws.FnJoinTally', WHERE WHAT IT READS IS OF BULK AT MOST 1048576: true; the input reads as it did. -/
def fnJoinTallyUptoRow : OpenClaim := { program := "ytjgjlcpnfiocfaadoor", sum := "1ec27e07c02e60e6c39fa9e2afffead26537c5b7472af09994d345b83dfb6d9f", func := "loop.example/historychecker/laws.FnJoinTally", spec := "fnJoinTally", unfollowed := true, recurses := true, named := ["internal/strconv.uint64pow10", "math/bits.deBruijn32tab", "math/bits.deBruijn64tab"], apart := false, laid := [("math/bits.deBruijn32tab", laid_math_bits_deBruijn32tab), ("math/bits.deBruijn64tab", laid_math_bits_deBruijn64tab), ("internal/strconv.uint64pow10", laid_internal_strconv_uint64pow10)], narrowed := true }
def FnJoinTallyUptoSaid : Prop := fnJoinTallyUptoRow.holds Tryd.pinned (OpenSpec.upto fnJoinTallySpec)

end Rows
end Go.Proofs.YtjgjlcpnfiocfaaDoor
