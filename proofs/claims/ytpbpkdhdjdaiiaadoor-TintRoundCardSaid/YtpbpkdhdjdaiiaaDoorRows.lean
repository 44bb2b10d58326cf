/-
  NARROWER THAN 'FOR EVERY INPUT', by the rows' own cells (each row's printed sentence says how): TintTells: laid · TintParses: laid · TintBack: laid · TintNear: laid · TintFair: laid · TintBetween: laid · TintRamps: laid · TintEnds: laid · TintRound: laid · TintKnown: laid.
  DERIVED. THE GIVEN ROWS OF THIS SEAT. 10 by the template 'for every input the law returns true; each argument reads behind the call as it read before'; 0 by the template 'total and deterministic' (their statements: YtpbpkdhdjdaiiaaDoorTotals.lean).
  GIVEN WITH THE SEED: the statements are not yours to turn. If you find one false, say at which input.
  Laid BY PROGRAM, IN A SANDBOX (cutbox-rows.mjs): the forced cells as the released guide's own fill.sh prints them over the translation 4f96af5cd9c43856… (all of the seat's roots in one cut). By AI agents, Wed Nov 11 2026. No macro, syntax, notation, axiom, sorry.
-/
import Derived.Test.YtpbpkdhdjdaiiaaDoorChecked
import GoSem.Claim
import GoSem.ClaimJoined
import GoSem.ClaimMapViews
import Derived.JoinedTies
import Derived.KernelRfl
namespace Go.Proofs.YtpbpkdhdjdaiiaaDoor
/- THE CELL 'sum', in the pinned program and in every row, IS THE sha256 OF THE DUMP (.gsa) THAT YtpbpkdhdjdaiiaaDoorProg.lean LOADS. Nothing in Lean hashes anything: it is a label: what it is worth is what the hold of that sum in a sandbox is worth. -/
noncomputable def Tryd.pinned : Pinned := { name := "ytpbpkdhdjdaiiaadoor", sum := "4f96af5cd9c4385635a2275c6e1b12c0b2bb47633e7dda418b1579b3dca0a1d0", checked := Tryd.checked }
namespace Rows
def none {H : Type} : Left H := { results := [], args := [] }

/- WHAT THE LISTED PACKAGE-LEVEL VARIABLES READ AS WHEN THE CALL BEGINS. Each datum BY PROGRAM (the guide's laid-datum.mjs) off the statement by which the dump's own 'gosem.cut.vars' lays the variable. In a bare row this is a premise. The card (YtpbpkdhdjdaiiaaDoorCards.lean) ties it to the program's text. -/
def laid_math_bits_deBruijn32tab {H : Type} : DataW H := .agg [.lit (.int .u8 0), .lit (.int .u8 1), .lit (.int .u8 28), .lit (.int .u8 2), .lit (.int .u8 29), .lit (.int .u8 14), .lit (.int .u8 24), .lit (.int .u8 3), .lit (.int .u8 30), .lit (.int .u8 22), .lit (.int .u8 20), .lit (.int .u8 15), .lit (.int .u8 25), .lit (.int .u8 17), .lit (.int .u8 4), .lit (.int .u8 8), .lit (.int .u8 31), .lit (.int .u8 27), .lit (.int .u8 13), .lit (.int .u8 23), .lit (.int .u8 21), .lit (.int .u8 19), .lit (.int .u8 16), .lit (.int .u8 7), .lit (.int .u8 26), .lit (.int .u8 12), .lit (.int .u8 18), .lit (.int .u8 6), .lit (.int .u8 11), .lit (.int .u8 5), .lit (.int .u8 10), .lit (.int .u8 9)]
def laid_math_bits_deBruijn64tab {H : Type} : DataW H := .agg [.lit (.int .u8 0), .lit (.int .u8 1), .lit (.int .u8 56), .lit (.int .u8 2), .lit (.int .u8 57), .lit (.int .u8 49), .lit (.int .u8 28), .lit (.int .u8 3), .lit (.int .u8 61), .lit (.int .u8 58), .lit (.int .u8 42), .lit (.int .u8 50), .lit (.int .u8 38), .lit (.int .u8 29), .lit (.int .u8 17), .lit (.int .u8 4), .lit (.int .u8 62), .lit (.int .u8 47), .lit (.int .u8 59), .lit (.int .u8 36), .lit (.int .u8 45), .lit (.int .u8 43), .lit (.int .u8 51), .lit (.int .u8 22), .lit (.int .u8 53), .lit (.int .u8 39), .lit (.int .u8 33), .lit (.int .u8 30), .lit (.int .u8 24), .lit (.int .u8 18), .lit (.int .u8 12), .lit (.int .u8 5), .lit (.int .u8 63), .lit (.int .u8 55), .lit (.int .u8 48), .lit (.int .u8 27), .lit (.int .u8 60), .lit (.int .u8 41), .lit (.int .u8 37), .lit (.int .u8 16), .lit (.int .u8 46), .lit (.int .u8 35), .lit (.int .u8 44), .lit (.int .u8 21), .lit (.int .u8 52), .lit (.int .u8 32), .lit (.int .u8 23), .lit (.int .u8 11), .lit (.int .u8 54), .lit (.int .u8 26), .lit (.int .u8 40), .lit (.int .u8 15), .lit (.int .u8 34), .lit (.int .u8 20), .lit (.int .u8 31), .lit (.int .u8 10), .lit (.int .u8 25), .lit (.int .u8 14), .lit (.int .u8 19), .lit (.int .u8 9), .lit (.int .u8 13), .lit (.int .u8 8), .lit (.int .u8 7), .lit (.int .u8 6)]
def laid_internal_strconv_uint64pow10 {H : Type} : DataW H := .agg [.lit (.int .u64 1), .lit (.int .u64 10), .lit (.int .u64 100), .lit (.int .u64 1000), .lit (.int .u64 10000), .lit (.int .u64 100000), .lit (.int .u64 1000000), .lit (.int .u64 10000000), .lit (.int .u64 100000000), .lit (.int .u64 1000000000), .lit (.int .u64 10000000000), .lit (.int .u64 100000000000), .lit (.int .u64 1000000000000), .lit (.int .u64 10000000000000), .lit (.int .u64 100000000000000), .lit (.int .u64 1000000000000000), .lit (.int .u64 10000000000000000), .lit (.int .u64 100000000000000000), .lit (.int .u64 1000000000000000000), .lit (.int .u64 10000000000000000000)]
def laid_strconv_ErrRange {H : Type} : DataW H := .iface "*errors.errorString" (.ptr (.agg [.lit (.string [118, 97, 108, 117, 101, 32, 111, 117, 116, 32, 111, 102, 32, 114, 97, 110, 103, 101])]))
def laid_strconv_ErrSyntax {H : Type} : DataW H := .iface "*errors.errorString" (.ptr (.agg [.lit (.string [105, 110, 118, 97, 108, 105, 100, 32, 115, 121, 110, 116, 97, 120])]))

/-- 'frescolaw05.TintTells': WHATEVER THE INPUT: true; the input reads as it did. -/
def tintTellsSpec : ChangeSpec := { name := "tintTells", fn := fun _ => fun
  | [d] => { results := [.lit (.bool true)], args := [d] }
  | _ => none }
def tintTellsRow : OpenClaim := { program := "ytpbpkdhdjdaiiaadoor", sum := "4f96af5cd9c4385635a2275c6e1b12c0b2bb47633e7dda418b1579b3dca0a1d0", func := "fresco/frescolaw05.TintTells", spec := "tintTells", inPlace := ["math.Float64bits", "math.Float64frombits"], named := ["internal/strconv.uint64pow10", "math/bits.deBruijn32tab", "math/bits.deBruijn64tab"], apart := false, laid := [("math/bits.deBruijn32tab", laid_math_bits_deBruijn32tab), ("math/bits.deBruijn64tab", laid_math_bits_deBruijn64tab), ("internal/strconv.uint64pow10", laid_internal_strconv_uint64pow10)] }
def TintTellsSaid : Prop := tintTellsRow.holds Tryd.pinned (OpenSpec.ofChange tintTellsSpec)

/-- ITS FALSE NEIGHBOUR: 'it returns false'. Refute it at one input. -/
def tintTellsWrong : ChangeSpec := { name := "tintTells", fn := fun _ => fun
  | [d] => { results := [.lit (.bool false)], args := [d] }
  | _ => none }
def TintTellsWrongFalsely : Prop := tintTellsRow.holds Tryd.pinned (OpenSpec.ofChange tintTellsWrong)

/-- 'frescolaw05.TintParses': WHATEVER THE INPUT: true; the input reads as it did. -/
def tintParsesSpec : ChangeSpec := { name := "tintParses", fn := fun _ => fun
  | [d] => { results := [.lit (.bool true)], args := [d] }
  | _ => none }
def tintParsesRow : OpenClaim := { program := "ytpbpkdhdjdaiiaadoor", sum := "4f96af5cd9c4385635a2275c6e1b12c0b2bb47633e7dda418b1579b3dca0a1d0", func := "fresco/frescolaw05.TintParses", spec := "tintParses", named := ["strconv.ErrSyntax", "strconv.ErrRange", "internal/strconv.uint64pow10", "math/bits.deBruijn32tab", "math/bits.deBruijn64tab"], apart := false, laid := [("math/bits.deBruijn32tab", laid_math_bits_deBruijn32tab), ("math/bits.deBruijn64tab", laid_math_bits_deBruijn64tab), ("internal/strconv.uint64pow10", laid_internal_strconv_uint64pow10), ("strconv.ErrRange", laid_strconv_ErrRange), ("strconv.ErrSyntax", laid_strconv_ErrSyntax)] }
def TintParsesSaid : Prop := tintParsesRow.holds Tryd.pinned (OpenSpec.ofChange tintParsesSpec)

/-- ITS FALSE NEIGHBOUR: 'it returns false'. Refute it at one input. -/
def tintParsesWrong : ChangeSpec := { name := "tintParses", fn := fun _ => fun
  | [d] => { results := [.lit (.bool false)], args := [d] }
  | _ => none }
def TintParsesWrongFalsely : Prop := tintParsesRow.holds Tryd.pinned (OpenSpec.ofChange tintParsesWrong)

/-- 'frescolaw05.TintBack': WHATEVER THE INPUT: true; the input reads as it did. -/
def tintBackSpec : ChangeSpec := { name := "tintBack", fn := fun _ => fun
  | [d1, d2] => { results := [.lit (.bool true)], args := [d1, d2] }
  | _ => none }
def tintBackRow : OpenClaim := { program := "ytpbpkdhdjdaiiaadoor", sum := "4f96af5cd9c4385635a2275c6e1b12c0b2bb47633e7dda418b1579b3dca0a1d0", func := "fresco/frescolaw05.TintBack", spec := "tintBack", named := ["strconv.ErrSyntax", "strconv.ErrRange", "internal/strconv.uint64pow10", "math/bits.deBruijn32tab", "math/bits.deBruijn64tab"], apart := false, laid := [("math/bits.deBruijn32tab", laid_math_bits_deBruijn32tab), ("math/bits.deBruijn64tab", laid_math_bits_deBruijn64tab), ("internal/strconv.uint64pow10", laid_internal_strconv_uint64pow10), ("strconv.ErrRange", laid_strconv_ErrRange), ("strconv.ErrSyntax", laid_strconv_ErrSyntax)] }
def TintBackSaid : Prop := tintBackRow.holds Tryd.pinned (OpenSpec.ofChange tintBackSpec)

/-- ITS FALSE NEIGHBOUR: 'it returns false'. Refute it at one input. -/
def tintBackWrong : ChangeSpec := { name := "tintBack", fn := fun _ => fun
  | [d1, d2] => { results := [.lit (.bool false)], args := [d1, d2] }
  | _ => none }
def TintBackWrongFalsely : Prop := tintBackRow.holds Tryd.pinned (OpenSpec.ofChange tintBackWrong)

/-- 'frescolaw05.TintNear': WHATEVER THE INPUT: true; the input reads as it did. -/
def tintNearSpec : ChangeSpec := { name := "tintNear", fn := fun _ => fun
  | [d1, d2] => { results := [.lit (.bool true)], args := [d1, d2] }
  | _ => none }
def tintNearRow : OpenClaim := { program := "ytpbpkdhdjdaiiaadoor", sum := "4f96af5cd9c4385635a2275c6e1b12c0b2bb47633e7dda418b1579b3dca0a1d0", func := "fresco/frescolaw05.TintNear", spec := "tintNear", named := ["strconv.ErrSyntax", "strconv.ErrRange", "internal/strconv.uint64pow10", "math/bits.deBruijn32tab", "math/bits.deBruijn64tab"], apart := false, laid := [("math/bits.deBruijn32tab", laid_math_bits_deBruijn32tab), ("math/bits.deBruijn64tab", laid_math_bits_deBruijn64tab), ("internal/strconv.uint64pow10", laid_internal_strconv_uint64pow10), ("strconv.ErrRange", laid_strconv_ErrRange), ("strconv.ErrSyntax", laid_strconv_ErrSyntax)] }
def TintNearSaid : Prop := tintNearRow.holds Tryd.pinned (OpenSpec.ofChange tintNearSpec)

/-- ITS FALSE NEIGHBOUR: 'it returns false'. Refute it at one input. -/
def tintNearWrong : ChangeSpec := { name := "tintNear", fn := fun _ => fun
  | [d1, d2] => { results := [.lit (.bool false)], args := [d1, d2] }
  | _ => none }
def TintNearWrongFalsely : Prop := tintNearRow.holds Tryd.pinned (OpenSpec.ofChange tintNearWrong)

/-- 'frescolaw05.TintFair': WHATEVER THE INPUT: true; the input reads as it did. -/
def tintFairSpec : ChangeSpec := { name := "tintFair", fn := fun _ => fun
  | [d1, d2] => { results := [.lit (.bool true)], args := [d1, d2] }
  | _ => none }
def tintFairRow : OpenClaim := { program := "ytpbpkdhdjdaiiaadoor", sum := "4f96af5cd9c4385635a2275c6e1b12c0b2bb47633e7dda418b1579b3dca0a1d0", func := "fresco/frescolaw05.TintFair", spec := "tintFair", named := ["strconv.ErrSyntax", "strconv.ErrRange", "internal/strconv.uint64pow10", "math/bits.deBruijn32tab", "math/bits.deBruijn64tab"], apart := false, laid := [("math/bits.deBruijn32tab", laid_math_bits_deBruijn32tab), ("math/bits.deBruijn64tab", laid_math_bits_deBruijn64tab), ("internal/strconv.uint64pow10", laid_internal_strconv_uint64pow10), ("strconv.ErrRange", laid_strconv_ErrRange), ("strconv.ErrSyntax", laid_strconv_ErrSyntax)] }
def TintFairSaid : Prop := tintFairRow.holds Tryd.pinned (OpenSpec.ofChange tintFairSpec)

/-- ITS FALSE NEIGHBOUR: 'it returns false'. Refute it at one input. -/
def tintFairWrong : ChangeSpec := { name := "tintFair", fn := fun _ => fun
  | [d1, d2] => { results := [.lit (.bool false)], args := [d1, d2] }
  | _ => none }
def TintFairWrongFalsely : Prop := tintFairRow.holds Tryd.pinned (OpenSpec.ofChange tintFairWrong)

/-- 'frescolaw05.TintBetween': WHATEVER THE INPUT: true; the input reads as it did. -/
def tintBetweenSpec : ChangeSpec := { name := "tintBetween", fn := fun _ => fun
  | [d1, d2, d3] => { results := [.lit (.bool true)], args := [d1, d2, d3] }
  | _ => none }
def tintBetweenRow : OpenClaim := { program := "ytpbpkdhdjdaiiaadoor", sum := "4f96af5cd9c4385635a2275c6e1b12c0b2bb47633e7dda418b1579b3dca0a1d0", func := "fresco/frescolaw05.TintBetween", spec := "tintBetween", inPlace := ["math.archFloor", "math.Float64bits", "math.Float64frombits", "math.archTrunc"], named := ["strconv.ErrSyntax", "strconv.ErrRange", "internal/strconv.uint64pow10", "math/bits.deBruijn32tab", "math/bits.deBruijn64tab"], apart := false, laid := [("math/bits.deBruijn32tab", laid_math_bits_deBruijn32tab), ("math/bits.deBruijn64tab", laid_math_bits_deBruijn64tab), ("internal/strconv.uint64pow10", laid_internal_strconv_uint64pow10), ("strconv.ErrRange", laid_strconv_ErrRange), ("strconv.ErrSyntax", laid_strconv_ErrSyntax)] }
def TintBetweenSaid : Prop := tintBetweenRow.holds Tryd.pinned (OpenSpec.ofChange tintBetweenSpec)

/-- ITS FALSE NEIGHBOUR: 'it returns false'. Refute it at one input. -/
def tintBetweenWrong : ChangeSpec := { name := "tintBetween", fn := fun _ => fun
  | [d1, d2, d3] => { results := [.lit (.bool false)], args := [d1, d2, d3] }
  | _ => none }
def TintBetweenWrongFalsely : Prop := tintBetweenRow.holds Tryd.pinned (OpenSpec.ofChange tintBetweenWrong)

/-- 'frescolaw05.TintRamps': WHATEVER THE INPUT: true; the input reads as it did. -/
def tintRampsSpec : ChangeSpec := { name := "tintRamps", fn := fun _ => fun
  | [d1, d2, d3, d4] => { results := [.lit (.bool true)], args := [d1, d2, d3, d4] }
  | _ => none }
def tintRampsRow : OpenClaim := { program := "ytpbpkdhdjdaiiaadoor", sum := "4f96af5cd9c4385635a2275c6e1b12c0b2bb47633e7dda418b1579b3dca0a1d0", func := "fresco/frescolaw05.TintRamps", spec := "tintRamps", inPlace := ["math.archFloor", "math.Float64bits", "math.Float64frombits", "math.archTrunc"], named := ["strconv.ErrSyntax", "strconv.ErrRange", "internal/strconv.uint64pow10", "math/bits.deBruijn32tab", "math/bits.deBruijn64tab"], apart := false, laid := [("math/bits.deBruijn32tab", laid_math_bits_deBruijn32tab), ("math/bits.deBruijn64tab", laid_math_bits_deBruijn64tab), ("internal/strconv.uint64pow10", laid_internal_strconv_uint64pow10), ("strconv.ErrRange", laid_strconv_ErrRange), ("strconv.ErrSyntax", laid_strconv_ErrSyntax)] }
def TintRampsSaid : Prop := tintRampsRow.holds Tryd.pinned (OpenSpec.ofChange tintRampsSpec)

/-- ITS FALSE NEIGHBOUR: 'it returns false'. Refute it at one input. -/
def tintRampsWrong : ChangeSpec := { name := "tintRamps", fn := fun _ => fun
  | [d1, d2, d3, d4] => { results := [.lit (.bool false)], args := [d1, d2, d3, d4] }
  | _ => none }
def TintRampsWrongFalsely : Prop := tintRampsRow.holds Tryd.pinned (OpenSpec.ofChange tintRampsWrong)

/-- 'frescolaw05.TintEnds': WHATEVER THE INPUT: true; the input reads as it did. -/
def tintEndsSpec : ChangeSpec := { name := "tintEnds", fn := fun _ => fun
  | [d1, d2] => { results := [.lit (.bool true)], args := [d1, d2] }
  | _ => none }
def tintEndsRow : OpenClaim := { program := "ytpbpkdhdjdaiiaadoor", sum := "4f96af5cd9c4385635a2275c6e1b12c0b2bb47633e7dda418b1579b3dca0a1d0", func := "fresco/frescolaw05.TintEnds", spec := "tintEnds", inPlace := ["math.archFloor", "math.Float64bits", "math.Float64frombits", "math.archTrunc"], named := ["strconv.ErrSyntax", "strconv.ErrRange", "internal/strconv.uint64pow10", "math/bits.deBruijn32tab", "math/bits.deBruijn64tab"], apart := false, laid := [("math/bits.deBruijn32tab", laid_math_bits_deBruijn32tab), ("math/bits.deBruijn64tab", laid_math_bits_deBruijn64tab), ("internal/strconv.uint64pow10", laid_internal_strconv_uint64pow10), ("strconv.ErrRange", laid_strconv_ErrRange), ("strconv.ErrSyntax", laid_strconv_ErrSyntax)] }
def TintEndsSaid : Prop := tintEndsRow.holds Tryd.pinned (OpenSpec.ofChange tintEndsSpec)

/-- ITS FALSE NEIGHBOUR: 'it returns false'. Refute it at one input. -/
def tintEndsWrong : ChangeSpec := { name := "tintEnds", fn := fun _ => fun
  | [d1, d2] => { results := [.lit (.bool false)], args := [d1, d2] }
  | _ => none }
def TintEndsWrongFalsely : Prop := tintEndsRow.holds Tryd.pinned (OpenSpec.ofChange tintEndsWrong)

/-- 'frescolaw05.TintRound': WHATEVER THE INPUT: true; the input reads as it did. -/
def tintRoundSpec : ChangeSpec := { name := "tintRound", fn := fun _ => fun
  | [d] => { results := [.lit (.bool true)], args := [d] }
  | _ => none }
def tintRoundRow : OpenClaim := { program := "ytpbpkdhdjdaiiaadoor", sum := "4f96af5cd9c4385635a2275c6e1b12c0b2bb47633e7dda418b1579b3dca0a1d0", func := "fresco/frescolaw05.TintRound", spec := "tintRound", inPlace := ["math.Float64bits", "math.Float64frombits", "math.archFloor", "math.archTrunc"], named := ["strconv.ErrSyntax", "strconv.ErrRange", "internal/strconv.uint64pow10", "math/bits.deBruijn32tab", "math/bits.deBruijn64tab"], apart := false, laid := [("math/bits.deBruijn32tab", laid_math_bits_deBruijn32tab), ("math/bits.deBruijn64tab", laid_math_bits_deBruijn64tab), ("internal/strconv.uint64pow10", laid_internal_strconv_uint64pow10), ("strconv.ErrRange", laid_strconv_ErrRange), ("strconv.ErrSyntax", laid_strconv_ErrSyntax)] }
def TintRoundSaid : Prop := tintRoundRow.holds Tryd.pinned (OpenSpec.ofChange tintRoundSpec)

/-- ITS FALSE NEIGHBOUR: 'it returns false'. Refute it at one input. -/
def tintRoundWrong : ChangeSpec := { name := "tintRound", fn := fun _ => fun
  | [d] => { results := [.lit (.bool false)], args := [d] }
  | _ => none }
def TintRoundWrongFalsely : Prop := tintRoundRow.holds Tryd.pinned (OpenSpec.ofChange tintRoundWrong)

/-- 'frescolaw05.TintKnown': WHATEVER THE INPUT: true; the input reads as it did. -/
def tintKnownSpec : ChangeSpec := { name := "tintKnown", fn := fun _ => fun
  | [] => { results := [.lit (.bool true)], args := [] }
  | _ => none }
def tintKnownRow : OpenClaim := { program := "ytpbpkdhdjdaiiaadoor", sum := "4f96af5cd9c4385635a2275c6e1b12c0b2bb47633e7dda418b1579b3dca0a1d0", func := "fresco/frescolaw05.TintKnown", spec := "tintKnown", inPlace := ["math.archFloor", "math.Float64bits", "math.Float64frombits", "math.archTrunc"], named := ["internal/strconv.uint64pow10", "math/bits.deBruijn32tab", "math/bits.deBruijn64tab", "strconv.ErrSyntax", "strconv.ErrRange"], apart := false, laid := [("math/bits.deBruijn32tab", laid_math_bits_deBruijn32tab), ("math/bits.deBruijn64tab", laid_math_bits_deBruijn64tab), ("internal/strconv.uint64pow10", laid_internal_strconv_uint64pow10), ("strconv.ErrRange", laid_strconv_ErrRange), ("strconv.ErrSyntax", laid_strconv_ErrSyntax)] }
def TintKnownSaid : Prop := tintKnownRow.holds Tryd.pinned (OpenSpec.ofChange tintKnownSpec)

/-- ITS FALSE NEIGHBOUR: 'it returns false'. Refute it at one input. -/
def tintKnownWrong : ChangeSpec := { name := "tintKnown", fn := fun _ => fun
  | [] => { results := [.lit (.bool false)], args := [] }
  | _ => none }
def TintKnownWrongFalsely : Prop := tintKnownRow.holds Tryd.pinned (OpenSpec.ofChange tintKnownWrong)

/- THE SECOND FORM. 'bulk': how many values and letters a reading holds, each counted each time it is reached (what is shared counts as often as it is met; a slice's spare places count too). A statement '..UptoSaid' is the law's where the arguments, and the package variables that the reading takes, are together of bulk at most 1048576: NARROWER than '..Said'. Prove '..Said' where nothing that the law and all that it calls make is longer than what came in: it says more and counts as full. Else prove '..UptoSaid'. A law counts once. -/
mutual
def uptoBulk {H : Type} : DataW H → Nat
  | .lit (.string bytes) => bytes.length + 1
  | .lit _ => 1
  | .nil => 1
  | .ptr d => uptoBulk d + 1
  | .slice elems spare => uptoBulkAll elems + uptoBulkAll spare + 1
  | .agg parts => uptoBulkAll parts + 1
  | .iface _ d => uptoBulk d + 1
  | .map entries => uptoBulkEntries entries + 1
  | .held _ => 1
def uptoBulkAll {H : Type} : List (DataW H) → Nat
  | [] => 0
  | d :: r => uptoBulk d + uptoBulkAll r
def uptoBulkEntries {H : Type} : List (Lit × DataW H) → Nat
  | [] => 0
  | x :: r => uptoBulkEntry x + uptoBulkEntries r
def uptoBulkEntry {H : Type} : Lit × DataW H → Nat
  | (.string bytes, d) => bytes.length + uptoBulk d + 1
  | (_, d) => uptoBulk d + 1
 end
def uptoSmall : (H : Type) → List (DataW H) → Bool := fun _ ds => decide (uptoBulkAll ds ≤ 1048576)
def OpenSpec.upto (s : _root_.Go.ChangeSpec) : _root_.Go.OpenSpec := { _root_.Go.OpenSpec.ofChange s with cond := some uptoSmall }

/-- 'frescolaw05.TintTells', WHERE WHAT IT READS IS OF BULK AT MOST 1048576: true; the input reads as it did. -/
def tintTellsUptoRow : OpenClaim := { program := "ytpbpkdhdjdaiiaadoor", sum := "4f96af5cd9c4385635a2275c6e1b12c0b2bb47633e7dda418b1579b3dca0a1d0", func := "fresco/frescolaw05.TintTells", spec := "tintTells", inPlace := ["math.Float64bits", "math.Float64frombits"], named := ["internal/strconv.uint64pow10", "math/bits.deBruijn32tab", "math/bits.deBruijn64tab"], apart := false, laid := [("math/bits.deBruijn32tab", laid_math_bits_deBruijn32tab), ("math/bits.deBruijn64tab", laid_math_bits_deBruijn64tab), ("internal/strconv.uint64pow10", laid_internal_strconv_uint64pow10)], narrowed := true }
def TintTellsUptoSaid : Prop := tintTellsUptoRow.holds Tryd.pinned (OpenSpec.upto tintTellsSpec)

/-- 'frescolaw05.TintParses', WHERE WHAT IT READS IS OF BULK AT MOST 1048576: true; the input reads as it did. -/
def tintParsesUptoRow : OpenClaim := { program := "ytpbpkdhdjdaiiaadoor", sum := "4f96af5cd9c4385635a2275c6e1b12c0b2bb47633e7dda418b1579b3dca0a1d0", func := "fresco/frescolaw05.TintParses", spec := "tintParses", named := ["strconv.ErrSyntax", "strconv.ErrRange", "internal/strconv.uint64pow10", "math/bits.deBruijn32tab", "math/bits.deBruijn64tab"], apart := false, laid := [("math/bits.deBruijn32tab", laid_math_bits_deBruijn32tab), ("math/bits.deBruijn64tab", laid_math_bits_deBruijn64tab), ("internal/strconv.uint64pow10", laid_internal_strconv_uint64pow10), ("strconv.ErrRange", laid_strconv_ErrRange), ("strconv.ErrSyntax", laid_strconv_ErrSyntax)], narrowed := true }
def TintParsesUptoSaid : Prop := tintParsesUptoRow.holds Tryd.pinned (OpenSpec.upto tintParsesSpec)

/-- 'frescolaw05.TintBack', WHERE WHAT IT READS IS OF BULK AT MOST 1048576: true; the input reads as it did. -/
def tintBackUptoRow : OpenClaim := { program := "ytpbpkdhdjdaiiaadoor", sum := "4f96af5cd9c4385635a2275c6e1b12c0b2bb47633e7dda418b1579b3dca0a1d0", func := "fresco/frescolaw05.TintBack", spec := "tintBack", named := ["strconv.ErrSyntax", "strconv.ErrRange", "internal/strconv.uint64pow10", "math/bits.deBruijn32tab", "math/bits.deBruijn64tab"], apart := false, laid := [("math/bits.deBruijn32tab", laid_math_bits_deBruijn32tab), ("math/bits.deBruijn64tab", laid_math_bits_deBruijn64tab), ("internal/strconv.uint64pow10", laid_internal_strconv_uint64pow10), ("strconv.ErrRange", laid_strconv_ErrRange), ("strconv.ErrSyntax", laid_strconv_ErrSyntax)], narrowed := true }
def TintBackUptoSaid : Prop := tintBackUptoRow.holds Tryd.pinned (OpenSpec.upto tintBackSpec)

/-- 'frescolaw05.TintNear', WHERE WHAT IT READS IS OF BULK AT MOST 1048576: true; the input reads as it did. -/
def tintNearUptoRow : OpenClaim := { program := "ytpbpkdhdjdaiiaadoor", sum := "4f96af5cd9c4385635a2275c6e1b12c0b2bb47633e7dda418b1579b3dca0a1d0", func := "fresco/frescolaw05.TintNear", spec := "tintNear", named := ["strconv.ErrSyntax", "strconv.ErrRange", "internal/strconv.uint64pow10", "math/bits.deBruijn32tab", "math/bits.deBruijn64tab"], apart := false, laid := [("math/bits.deBruijn32tab", laid_math_bits_deBruijn32tab), ("math/bits.deBruijn64tab", laid_math_bits_deBruijn64tab), ("internal/strconv.uint64pow10", laid_internal_strconv_uint64pow10), ("strconv.ErrRange", laid_strconv_ErrRange), ("strconv.ErrSyntax", laid_strconv_ErrSyntax)], narrowed := true }
def TintNearUptoSaid : Prop := tintNearUptoRow.holds Tryd.pinned (OpenSpec.upto tintNearSpec)

/-- 'frescolaw05.TintFair', WHERE WHAT IT READS IS OF BULK AT MOST 1048576: true; the input reads as it did. -/
def tintFairUptoRow : OpenClaim := { program := "ytpbpkdhdjdaiiaadoor", sum := "4f96af5cd9c4385635a2275c6e1b12c0b2bb47633e7dda418b1579b3dca0a1d0", func := "fresco/frescolaw05.TintFair", spec := "tintFair", named := ["strconv.ErrSyntax", "strconv.ErrRange", "internal/strconv.uint64pow10", "math/bits.deBruijn32tab", "math/bits.deBruijn64tab"], apart := false, laid := [("math/bits.deBruijn32tab", laid_math_bits_deBruijn32tab), ("math/bits.deBruijn64tab", laid_math_bits_deBruijn64tab), ("internal/strconv.uint64pow10", laid_internal_strconv_uint64pow10), ("strconv.ErrRange", laid_strconv_ErrRange), ("strconv.ErrSyntax", laid_strconv_ErrSyntax)], narrowed := true }
def TintFairUptoSaid : Prop := tintFairUptoRow.holds Tryd.pinned (OpenSpec.upto tintFairSpec)

/-- 'frescolaw05.TintBetween', WHERE WHAT IT READS IS OF BULK AT MOST 1048576: true; the input reads as it did. -/
def tintBetweenUptoRow : OpenClaim := { program := "ytpbpkdhdjdaiiaadoor", sum := "4f96af5cd9c4385635a2275c6e1b12c0b2bb47633e7dda418b1579b3dca0a1d0", func := "fresco/frescolaw05.TintBetween", spec := "tintBetween", inPlace := ["math.archFloor", "math.Float64bits", "math.Float64frombits", "math.archTrunc"], named := ["strconv.ErrSyntax", "strconv.ErrRange", "internal/strconv.uint64pow10", "math/bits.deBruijn32tab", "math/bits.deBruijn64tab"], apart := false, laid := [("math/bits.deBruijn32tab", laid_math_bits_deBruijn32tab), ("math/bits.deBruijn64tab", laid_math_bits_deBruijn64tab), ("internal/strconv.uint64pow10", laid_internal_strconv_uint64pow10), ("strconv.ErrRange", laid_strconv_ErrRange), ("strconv.ErrSyntax", laid_strconv_ErrSyntax)], narrowed := true }
def TintBetweenUptoSaid : Prop := tintBetweenUptoRow.holds Tryd.pinned (OpenSpec.upto tintBetweenSpec)

/-- 'frescolaw05.TintRamps', WHERE WHAT IT READS IS OF BULK AT MOST 1048576: true; the input reads as it did. -/
def tintRampsUptoRow : OpenClaim := { program := "ytpbpkdhdjdaiiaadoor", sum := "4f96af5cd9c4385635a2275c6e1b12c0b2bb47633e7dda418b1579b3dca0a1d0", func := "fresco/frescolaw05.TintRamps", spec := "tintRamps", inPlace := ["math.archFloor", "math.Float64bits", "math.Float64frombits", "math.archTrunc"], named := ["strconv.ErrSyntax", "strconv.ErrRange", "internal/strconv.uint64pow10", "math/bits.deBruijn32tab", "math/bits.deBruijn64tab"], apart := false, laid := [("math/bits.deBruijn32tab", laid_math_bits_deBruijn32tab), ("math/bits.deBruijn64tab", laid_math_bits_deBruijn64tab), ("internal/strconv.uint64pow10", laid_internal_strconv_uint64pow10), ("strconv.ErrRange", laid_strconv_ErrRange), ("strconv.ErrSyntax", laid_strconv_ErrSyntax)], narrowed := true }
def TintRampsUptoSaid : Prop := tintRampsUptoRow.holds Tryd.pinned (OpenSpec.upto tintRampsSpec)

/-- 'frescolaw05.TintEnds', WHERE WHAT IT READS IS OF BULK AT MOST 1048576: true; the input reads as it did. -/
def tintEndsUptoRow : OpenClaim := { program := "ytpbpkdhdjdaiiaadoor", sum := "4f96af5cd9c4385635a2275c6e1b12c0b2bb47633e7dda418b1579b3dca0a1d0", func := "fresco/frescolaw05.TintEnds", spec := "tintEnds", inPlace := ["math.archFloor", "math.Float64bits", "math.Float64frombits", "math.archTrunc"], named := ["strconv.ErrSyntax", "strconv.ErrRange", "internal/strconv.uint64pow10", "math/bits.deBruijn32tab", "math/bits.deBruijn64tab"], apart := false, laid := [("math/bits.deBruijn32tab", laid_math_bits_deBruijn32tab), ("math/bits.deBruijn64tab", laid_math_bits_deBruijn64tab), ("internal/strconv.uint64pow10", laid_internal_strconv_uint64pow10), ("strconv.ErrRange", laid_strconv_ErrRange), ("strconv.ErrSyntax", laid_strconv_ErrSyntax)], narrowed := true }
def TintEndsUptoSaid : Prop := tintEndsUptoRow.holds Tryd.pinned (OpenSpec.upto tintEndsSpec)

/-- 'frescolaw05.TintRound', WHERE WHAT IT READS IS OF BULK AT MOST 1048576: true; the input reads as it did. -/
def tintRoundUptoRow : OpenClaim := { program := "ytpbpkdhdjdaiiaadoor", sum := "4f96af5cd9c4385635a2275c6e1b12c0b2bb47633e7dda418b1579b3dca0a1d0", func := "fresco/frescolaw05.TintRound", spec := "tintRound", inPlace := ["math.Float64bits", "math.Float64frombits", "math.archFloor", "math.archTrunc"], named := ["strconv.ErrSyntax", "strconv.ErrRange", "internal/strconv.uint64pow10", "math/bits.deBruijn32tab", "math/bits.deBruijn64tab"], apart := false, laid := [("math/bits.deBruijn32tab", laid_math_bits_deBruijn32tab), ("math/bits.deBruijn64tab", laid_math_bits_deBruijn64tab), ("internal/strconv.uint64pow10", laid_internal_strconv_uint64pow10), ("strconv.ErrRange", laid_strconv_ErrRange), ("strconv.ErrSyntax", laid_strconv_ErrSyntax)], narrowed := true }
def TintRoundUptoSaid : Prop := tintRoundUptoRow.holds Tryd.pinned (OpenSpec.upto tintRoundSpec)

/-- 'frescolaw05.TintKnown', WHERE WHAT IT READS IS OF BULK AT MOST 1048576: true; the input reads as it did. -/
def tintKnownUptoRow : OpenClaim := { program := "ytpbpkdhdjdaiiaadoor", sum := "4f96af5cd9c4385635a2275c6e1b12c0b2bb47633e7dda418b1579b3dca0a1d0", func := "fresco/frescolaw05.TintKnown", spec := "tintKnown", inPlace := ["math.archFloor", "math.Float64bits", "math.Float64frombits", "math.archTrunc"], named := ["internal/strconv.uint64pow10", "math/bits.deBruijn32tab", "math/bits.deBruijn64tab", "strconv.ErrSyntax", "strconv.ErrRange"], apart := false, laid := [("math/bits.deBruijn32tab", laid_math_bits_deBruijn32tab), ("math/bits.deBruijn64tab", laid_math_bits_deBruijn64tab), ("internal/strconv.uint64pow10", laid_internal_strconv_uint64pow10), ("strconv.ErrRange", laid_strconv_ErrRange), ("strconv.ErrSyntax", laid_strconv_ErrSyntax)], narrowed := true }
def TintKnownUptoSaid : Prop := tintKnownUptoRow.holds Tryd.pinned (OpenSpec.upto tintKnownSpec)

end Rows
end Go.Proofs.YtpbpkdhdjdaiiaaDoor
