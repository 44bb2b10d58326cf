/-
  NARROWER THAN 'FOR EVERY INPUT', by the rows' own cells (each row's printed sentence says how): TapeEncodes: laid · TapeDecodes: laid · TapeBack: laid · TapeAnywhere: laid · TapeNone: laid · TapeKnown: laid · TapeSqueezes: laid · TapePauses: laid · TapeJoins: laid · TapeJoined: laid.
  DERIVED. THE GIVEN ROWS OF THIS SEAT. 10 by the template 'for every input the law returns true; each argument reads behind the call as it read before'; 0 by the template 'total and deterministic' (their statements: YtmaofighbpnbiaaGreatDoorTotals.lean).
  GIVEN WITH THE SEED: the statements are not yours to turn. If you find one false, say at which input.
  Laid BY PROGRAM, IN A SANDBOX (cutbox-rows.mjs): the forced cells as the released guide's own fill.sh prints them over the translation 5f4ca23beea84c38… (all of the seat's roots in one cut). By AI agents, Wed Nov 11 2026. No macro, syntax, notation, axiom, sorry.
-/
import Derived.Test.YtmaofighbpnbiaaGreatDoorChecked
import GoSem.Claim
import GoSem.ClaimJoined
import GoSem.ClaimMapViews
import Derived.JoinedTies
import Derived.KernelRfl
namespace Go.Proofs.YtmaofighbpnbiaaGreatDoor
/- THE CELL 'sum', in the pinned program and in every row, IS THE sha256 OF THE DUMP (.gsa) THAT YtmaofighbpnbiaaGreatDoorProg.lean LOADS. Nothing in Lean hashes anything: it is a label: what it is worth is what the hold of that sum in a sandbox is worth. -/
noncomputable def Tryz.pinned : Pinned := { name := "ytmaofighbpnbiaagreatdoor", sum := "5f4ca23beea84c3828a495b8f075d3693876e2ca175942c1cc3ed674f216c4ab", checked := Tryz.checked }
namespace Rows
def none {H : Type} : Left H := { results := [], args := [] }

/- WHAT THE LISTED PACKAGE-LEVEL VARIABLES READ AS WHEN THE CALL BEGINS. Each datum BY PROGRAM (the guide's laid-datum.mjs) off the statement by which the dump's own 'gosem.cut.vars' lays the variable. In a bare row this is a premise. The card (YtmaofighbpnbiaaGreatDoorCards.lean) ties it to the program's text. -/
def laid_math_bits_deBruijn32tab {H : Type} : DataW H := .agg [.lit (.int .u8 0), .lit (.int .u8 1), .lit (.int .u8 28), .lit (.int .u8 2), .lit (.int .u8 29), .lit (.int .u8 14), .lit (.int .u8 24), .lit (.int .u8 3), .lit (.int .u8 30), .lit (.int .u8 22), .lit (.int .u8 20), .lit (.int .u8 15), .lit (.int .u8 25), .lit (.int .u8 17), .lit (.int .u8 4), .lit (.int .u8 8), .lit (.int .u8 31), .lit (.int .u8 27), .lit (.int .u8 13), .lit (.int .u8 23), .lit (.int .u8 21), .lit (.int .u8 19), .lit (.int .u8 16), .lit (.int .u8 7), .lit (.int .u8 26), .lit (.int .u8 12), .lit (.int .u8 18), .lit (.int .u8 6), .lit (.int .u8 11), .lit (.int .u8 5), .lit (.int .u8 10), .lit (.int .u8 9)]
def laid_math_bits_deBruijn64tab {H : Type} : DataW H := .agg [.lit (.int .u8 0), .lit (.int .u8 1), .lit (.int .u8 56), .lit (.int .u8 2), .lit (.int .u8 57), .lit (.int .u8 49), .lit (.int .u8 28), .lit (.int .u8 3), .lit (.int .u8 61), .lit (.int .u8 58), .lit (.int .u8 42), .lit (.int .u8 50), .lit (.int .u8 38), .lit (.int .u8 29), .lit (.int .u8 17), .lit (.int .u8 4), .lit (.int .u8 62), .lit (.int .u8 47), .lit (.int .u8 59), .lit (.int .u8 36), .lit (.int .u8 45), .lit (.int .u8 43), .lit (.int .u8 51), .lit (.int .u8 22), .lit (.int .u8 53), .lit (.int .u8 39), .lit (.int .u8 33), .lit (.int .u8 30), .lit (.int .u8 24), .lit (.int .u8 18), .lit (.int .u8 12), .lit (.int .u8 5), .lit (.int .u8 63), .lit (.int .u8 55), .lit (.int .u8 48), .lit (.int .u8 27), .lit (.int .u8 60), .lit (.int .u8 41), .lit (.int .u8 37), .lit (.int .u8 16), .lit (.int .u8 46), .lit (.int .u8 35), .lit (.int .u8 44), .lit (.int .u8 21), .lit (.int .u8 52), .lit (.int .u8 32), .lit (.int .u8 23), .lit (.int .u8 11), .lit (.int .u8 54), .lit (.int .u8 26), .lit (.int .u8 40), .lit (.int .u8 15), .lit (.int .u8 34), .lit (.int .u8 20), .lit (.int .u8 31), .lit (.int .u8 10), .lit (.int .u8 25), .lit (.int .u8 14), .lit (.int .u8 19), .lit (.int .u8 9), .lit (.int .u8 13), .lit (.int .u8 8), .lit (.int .u8 7), .lit (.int .u8 6)]
def laid_internal_strconv_uint64pow10 {H : Type} : DataW H := .agg [.lit (.int .u64 1), .lit (.int .u64 10), .lit (.int .u64 100), .lit (.int .u64 1000), .lit (.int .u64 10000), .lit (.int .u64 100000), .lit (.int .u64 1000000), .lit (.int .u64 10000000), .lit (.int .u64 100000000), .lit (.int .u64 1000000000), .lit (.int .u64 10000000000), .lit (.int .u64 100000000000), .lit (.int .u64 1000000000000), .lit (.int .u64 10000000000000), .lit (.int .u64 100000000000000), .lit (.int .u64 1000000000000000), .lit (.int .u64 10000000000000000), .lit (.int .u64 100000000000000000), .lit (.int .u64 1000000000000000000), .lit (.int .u64 10000000000000000000)]
def laid_fresco_style_on {H : Type} : DataW H := .agg [.lit (.int .i64 1), .lit (.int .i64 2), .lit (.int .i64 3), .lit (.int .i64 4), .lit (.int .i64 5), .lit (.int .i64 7), .lit (.int .i64 8), .lit (.int .i64 9)]
def laid_fresco_style_off {H : Type} : DataW H := .agg [.lit (.int .i64 22), .lit (.int .i64 22), .lit (.int .i64 23), .lit (.int .i64 24), .lit (.int .i64 25), .lit (.int .i64 27), .lit (.int .i64 28), .lit (.int .i64 29)]

/-- 'frescolaw30.TapeEncodes': WHATEVER THE INPUT: true; the input reads as it did. -/
def tapeEncodesSpec : ChangeSpec := { name := "tapeEncodes", fn := fun _ => fun
  | [d1, d2] => { results := [.lit (.bool true)], args := [d1, d2] }
  | _ => none }
def tapeEncodesRow : OpenClaim := { program := "ytmaofighbpnbiaagreatdoor", sum := "5f4ca23beea84c3828a495b8f075d3693876e2ca175942c1cc3ed674f216c4ab", func := "fresco/frescolaw30.TapeEncodes", spec := "tapeEncodes", unfollowed := true, recurses := true, named := ["fresco/style.on", "fresco/style.off", "internal/strconv.uint64pow10", "math/bits.deBruijn32tab", "math/bits.deBruijn64tab"], apart := false, laid := [("math/bits.deBruijn32tab", laid_math_bits_deBruijn32tab), ("math/bits.deBruijn64tab", laid_math_bits_deBruijn64tab), ("internal/strconv.uint64pow10", laid_internal_strconv_uint64pow10), ("fresco/style.on", laid_fresco_style_on), ("fresco/style.off", laid_fresco_style_off)] }
def TapeEncodesSaid : Prop := tapeEncodesRow.holds Tryz.pinned (OpenSpec.ofChange tapeEncodesSpec)

/-- ITS FALSE NEIGHBOUR: 'it returns false'. Refute it at one input. -/
def tapeEncodesWrong : ChangeSpec := { name := "tapeEncodes", fn := fun _ => fun
  | [d1, d2] => { results := [.lit (.bool false)], args := [d1, d2] }
  | _ => none }
def TapeEncodesWrongFalsely : Prop := tapeEncodesRow.holds Tryz.pinned (OpenSpec.ofChange tapeEncodesWrong)

/-- 'frescolaw30.TapeDecodes': WHATEVER THE INPUT: true; the input reads as it did. -/
def tapeDecodesSpec : ChangeSpec := { name := "tapeDecodes", fn := fun _ => fun
  | [d] => { results := [.lit (.bool true)], args := [d] }
  | _ => none }
def tapeDecodesRow : OpenClaim := { program := "ytmaofighbpnbiaagreatdoor", sum := "5f4ca23beea84c3828a495b8f075d3693876e2ca175942c1cc3ed674f216c4ab", func := "fresco/frescolaw30.TapeDecodes", spec := "tapeDecodes", unfollowed := true, recurses := true, named := ["fresco/style.on", "fresco/style.off", "internal/strconv.uint64pow10", "math/bits.deBruijn32tab", "math/bits.deBruijn64tab"], apart := false, laid := [("math/bits.deBruijn32tab", laid_math_bits_deBruijn32tab), ("math/bits.deBruijn64tab", laid_math_bits_deBruijn64tab), ("internal/strconv.uint64pow10", laid_internal_strconv_uint64pow10), ("fresco/style.on", laid_fresco_style_on), ("fresco/style.off", laid_fresco_style_off)] }
def TapeDecodesSaid : Prop := tapeDecodesRow.holds Tryz.pinned (OpenSpec.ofChange tapeDecodesSpec)

/-- ITS FALSE NEIGHBOUR: 'it returns false'. Refute it at one input. -/
def tapeDecodesWrong : ChangeSpec := { name := "tapeDecodes", fn := fun _ => fun
  | [d] => { results := [.lit (.bool false)], args := [d] }
  | _ => none }
def TapeDecodesWrongFalsely : Prop := tapeDecodesRow.holds Tryz.pinned (OpenSpec.ofChange tapeDecodesWrong)

/-- 'frescolaw30.TapeBack': WHATEVER THE INPUT: true; the input reads as it did. -/
def tapeBackSpec : ChangeSpec := { name := "tapeBack", fn := fun _ => fun
  | [d1, d2, d3, d4, d5] => { results := [.lit (.bool true)], args := [d1, d2, d3, d4, d5] }
  | _ => none }
def tapeBackRow : OpenClaim := { program := "ytmaofighbpnbiaagreatdoor", sum := "5f4ca23beea84c3828a495b8f075d3693876e2ca175942c1cc3ed674f216c4ab", func := "fresco/frescolaw30.TapeBack", spec := "tapeBack", unfollowed := true, recurses := true, named := ["fresco/style.on", "fresco/style.off", "internal/strconv.uint64pow10", "math/bits.deBruijn32tab", "math/bits.deBruijn64tab"], apart := false, laid := [("math/bits.deBruijn32tab", laid_math_bits_deBruijn32tab), ("math/bits.deBruijn64tab", laid_math_bits_deBruijn64tab), ("internal/strconv.uint64pow10", laid_internal_strconv_uint64pow10), ("fresco/style.on", laid_fresco_style_on), ("fresco/style.off", laid_fresco_style_off)] }
def TapeBackSaid : Prop := tapeBackRow.holds Tryz.pinned (OpenSpec.ofChange tapeBackSpec)

/-- ITS FALSE NEIGHBOUR: 'it returns false'. Refute it at one input. -/
def tapeBackWrong : ChangeSpec := { name := "tapeBack", fn := fun _ => fun
  | [d1, d2, d3, d4, d5] => { results := [.lit (.bool false)], args := [d1, d2, d3, d4, d5] }
  | _ => none }
def TapeBackWrongFalsely : Prop := tapeBackRow.holds Tryz.pinned (OpenSpec.ofChange tapeBackWrong)

/-- 'frescolaw30.TapeAnywhere': WHATEVER THE INPUT: true; the input reads as it did. -/
def tapeAnywhereSpec : ChangeSpec := { name := "tapeAnywhere", fn := fun _ => fun
  | [d1, d2, d3, d4] => { results := [.lit (.bool true)], args := [d1, d2, d3, d4] }
  | _ => none }
def tapeAnywhereRow : OpenClaim := { program := "ytmaofighbpnbiaagreatdoor", sum := "5f4ca23beea84c3828a495b8f075d3693876e2ca175942c1cc3ed674f216c4ab", func := "fresco/frescolaw30.TapeAnywhere", spec := "tapeAnywhere", unfollowed := true, recurses := true, named := ["fresco/style.on", "fresco/style.off", "internal/strconv.uint64pow10", "math/bits.deBruijn32tab", "math/bits.deBruijn64tab"], apart := false, laid := [("math/bits.deBruijn32tab", laid_math_bits_deBruijn32tab), ("math/bits.deBruijn64tab", laid_math_bits_deBruijn64tab), ("internal/strconv.uint64pow10", laid_internal_strconv_uint64pow10), ("fresco/style.on", laid_fresco_style_on), ("fresco/style.off", laid_fresco_style_off)] }
def TapeAnywhereSaid : Prop := tapeAnywhereRow.holds Tryz.pinned (OpenSpec.ofChange tapeAnywhereSpec)

/-- ITS FALSE NEIGHBOUR: 'it returns false'. Refute it at one input. -/
def tapeAnywhereWrong : ChangeSpec := { name := "tapeAnywhere", fn := fun _ => fun
  | [d1, d2, d3, d4] => { results := [.lit (.bool false)], args := [d1, d2, d3, d4] }
  | _ => none }
def TapeAnywhereWrongFalsely : Prop := tapeAnywhereRow.holds Tryz.pinned (OpenSpec.ofChange tapeAnywhereWrong)

/-- 'frescolaw30.TapeNone': WHATEVER THE INPUT: true; the input reads as it did. -/
def tapeNoneSpec : ChangeSpec := { name := "tapeNone", fn := fun _ => fun
  | [d] => { results := [.lit (.bool true)], args := [d] }
  | _ => none }
def tapeNoneRow : OpenClaim := { program := "ytmaofighbpnbiaagreatdoor", sum := "5f4ca23beea84c3828a495b8f075d3693876e2ca175942c1cc3ed674f216c4ab", func := "fresco/frescolaw30.TapeNone", spec := "tapeNone", unfollowed := true, recurses := true, named := ["fresco/style.on", "fresco/style.off", "internal/strconv.uint64pow10", "math/bits.deBruijn32tab", "math/bits.deBruijn64tab"], apart := false, laid := [("math/bits.deBruijn32tab", laid_math_bits_deBruijn32tab), ("math/bits.deBruijn64tab", laid_math_bits_deBruijn64tab), ("internal/strconv.uint64pow10", laid_internal_strconv_uint64pow10), ("fresco/style.on", laid_fresco_style_on), ("fresco/style.off", laid_fresco_style_off)] }
def TapeNoneSaid : Prop := tapeNoneRow.holds Tryz.pinned (OpenSpec.ofChange tapeNoneSpec)

/-- ITS FALSE NEIGHBOUR: 'it returns false'. Refute it at one input. -/
def tapeNoneWrong : ChangeSpec := { name := "tapeNone", fn := fun _ => fun
  | [d] => { results := [.lit (.bool false)], args := [d] }
  | _ => none }
def TapeNoneWrongFalsely : Prop := tapeNoneRow.holds Tryz.pinned (OpenSpec.ofChange tapeNoneWrong)

/-- 'frescolaw30.TapeKnown': WHATEVER THE INPUT: true; the input reads as it did. -/
def tapeKnownSpec : ChangeSpec := { name := "tapeKnown", fn := fun _ => fun
  | [] => { results := [.lit (.bool true)], args := [] }
  | _ => none }
def tapeKnownRow : OpenClaim := { program := "ytmaofighbpnbiaagreatdoor", sum := "5f4ca23beea84c3828a495b8f075d3693876e2ca175942c1cc3ed674f216c4ab", func := "fresco/frescolaw30.TapeKnown", spec := "tapeKnown", unfollowed := true, recurses := true, named := ["fresco/style.on", "fresco/style.off", "internal/strconv.uint64pow10", "math/bits.deBruijn32tab", "math/bits.deBruijn64tab"], apart := false, laid := [("math/bits.deBruijn32tab", laid_math_bits_deBruijn32tab), ("math/bits.deBruijn64tab", laid_math_bits_deBruijn64tab), ("internal/strconv.uint64pow10", laid_internal_strconv_uint64pow10), ("fresco/style.on", laid_fresco_style_on), ("fresco/style.off", laid_fresco_style_off)] }
def TapeKnownSaid : Prop := tapeKnownRow.holds Tryz.pinned (OpenSpec.ofChange tapeKnownSpec)

/-- ITS FALSE NEIGHBOUR: 'it returns false'. Refute it at one input. -/
def tapeKnownWrong : ChangeSpec := { name := "tapeKnown", fn := fun _ => fun
  | [] => { results := [.lit (.bool false)], args := [] }
  | _ => none }
def TapeKnownWrongFalsely : Prop := tapeKnownRow.holds Tryz.pinned (OpenSpec.ofChange tapeKnownWrong)

/-- 'frescolaw30.TapeSqueezes': WHATEVER THE INPUT: true; the input reads as it did. -/
def tapeSqueezesSpec : ChangeSpec := { name := "tapeSqueezes", fn := fun _ => fun
  | [d1, d2] => { results := [.lit (.bool true)], args := [d1, d2] }
  | _ => none }
def tapeSqueezesRow : OpenClaim := { program := "ytmaofighbpnbiaagreatdoor", sum := "5f4ca23beea84c3828a495b8f075d3693876e2ca175942c1cc3ed674f216c4ab", func := "fresco/frescolaw30.TapeSqueezes", spec := "tapeSqueezes", unfollowed := true, recurses := true, named := ["fresco/style.on", "fresco/style.off", "internal/strconv.uint64pow10", "math/bits.deBruijn32tab", "math/bits.deBruijn64tab"], apart := false, laid := [("math/bits.deBruijn32tab", laid_math_bits_deBruijn32tab), ("math/bits.deBruijn64tab", laid_math_bits_deBruijn64tab), ("internal/strconv.uint64pow10", laid_internal_strconv_uint64pow10), ("fresco/style.on", laid_fresco_style_on), ("fresco/style.off", laid_fresco_style_off)] }
def TapeSqueezesSaid : Prop := tapeSqueezesRow.holds Tryz.pinned (OpenSpec.ofChange tapeSqueezesSpec)

/-- ITS FALSE NEIGHBOUR: 'it returns false'. Refute it at one input. -/
def tapeSqueezesWrong : ChangeSpec := { name := "tapeSqueezes", fn := fun _ => fun
  | [d1, d2] => { results := [.lit (.bool false)], args := [d1, d2] }
  | _ => none }
def TapeSqueezesWrongFalsely : Prop := tapeSqueezesRow.holds Tryz.pinned (OpenSpec.ofChange tapeSqueezesWrong)

/-- 'frescolaw30.TapePauses': WHATEVER THE INPUT: true; the input reads as it did. -/
def tapePausesSpec : ChangeSpec := { name := "tapePauses", fn := fun _ => fun
  | [d1, d2] => { results := [.lit (.bool true)], args := [d1, d2] }
  | _ => none }
def tapePausesRow : OpenClaim := { program := "ytmaofighbpnbiaagreatdoor", sum := "5f4ca23beea84c3828a495b8f075d3693876e2ca175942c1cc3ed674f216c4ab", func := "fresco/frescolaw30.TapePauses", spec := "tapePauses", unfollowed := true, recurses := true, named := ["fresco/style.on", "fresco/style.off", "internal/strconv.uint64pow10", "math/bits.deBruijn32tab", "math/bits.deBruijn64tab"], apart := false, laid := [("math/bits.deBruijn32tab", laid_math_bits_deBruijn32tab), ("math/bits.deBruijn64tab", laid_math_bits_deBruijn64tab), ("internal/strconv.uint64pow10", laid_internal_strconv_uint64pow10), ("fresco/style.on", laid_fresco_style_on), ("fresco/style.off", laid_fresco_style_off)] }
def TapePausesSaid : Prop := tapePausesRow.holds Tryz.pinned (OpenSpec.ofChange tapePausesSpec)

/-- ITS FALSE NEIGHBOUR: 'it returns false'. Refute it at one input. -/
def tapePausesWrong : ChangeSpec := { name := "tapePauses", fn := fun _ => fun
  | [d1, d2] => { results := [.lit (.bool false)], args := [d1, d2] }
  | _ => none }
def TapePausesWrongFalsely : Prop := tapePausesRow.holds Tryz.pinned (OpenSpec.ofChange tapePausesWrong)

/-- 'frescolaw30.TapeJoins': WHATEVER THE INPUT: true; the input reads as it did. -/
def tapeJoinsSpec : ChangeSpec := { name := "tapeJoins", fn := fun _ => fun
  | [d1, d2] => { results := [.lit (.bool true)], args := [d1, d2] }
  | _ => none }
def tapeJoinsRow : OpenClaim := { program := "ytmaofighbpnbiaagreatdoor", sum := "5f4ca23beea84c3828a495b8f075d3693876e2ca175942c1cc3ed674f216c4ab", func := "fresco/frescolaw30.TapeJoins", spec := "tapeJoins", unfollowed := true, recurses := true, named := ["fresco/style.on", "fresco/style.off", "internal/strconv.uint64pow10", "math/bits.deBruijn32tab", "math/bits.deBruijn64tab"], apart := false, laid := [("math/bits.deBruijn32tab", laid_math_bits_deBruijn32tab), ("math/bits.deBruijn64tab", laid_math_bits_deBruijn64tab), ("internal/strconv.uint64pow10", laid_internal_strconv_uint64pow10), ("fresco/style.on", laid_fresco_style_on), ("fresco/style.off", laid_fresco_style_off)] }
def TapeJoinsSaid : Prop := tapeJoinsRow.holds Tryz.pinned (OpenSpec.ofChange tapeJoinsSpec)

/-- ITS FALSE NEIGHBOUR: 'it returns false'. Refute it at one input. -/
def tapeJoinsWrong : ChangeSpec := { name := "tapeJoins", fn := fun _ => fun
  | [d1, d2] => { results := [.lit (.bool false)], args := [d1, d2] }
  | _ => none }
def TapeJoinsWrongFalsely : Prop := tapeJoinsRow.holds Tryz.pinned (OpenSpec.ofChange tapeJoinsWrong)

/-- 'frescolaw30.TapeJoined': WHATEVER THE INPUT: true; the input reads as it did. -/
def tapeJoinedSpec : ChangeSpec := { name := "tapeJoined", fn := fun _ => fun
  | [d1, d2, d3, d4] => { results := [.lit (.bool true)], args := [d1, d2, d3, d4] }
  | _ => none }
def tapeJoinedRow : OpenClaim := { program := "ytmaofighbpnbiaagreatdoor", sum := "5f4ca23beea84c3828a495b8f075d3693876e2ca175942c1cc3ed674f216c4ab", func := "fresco/frescolaw30.TapeJoined", spec := "tapeJoined", unfollowed := true, recurses := true, named := ["fresco/style.on", "fresco/style.off", "internal/strconv.uint64pow10", "math/bits.deBruijn32tab", "math/bits.deBruijn64tab"], apart := false, laid := [("math/bits.deBruijn32tab", laid_math_bits_deBruijn32tab), ("math/bits.deBruijn64tab", laid_math_bits_deBruijn64tab), ("internal/strconv.uint64pow10", laid_internal_strconv_uint64pow10), ("fresco/style.on", laid_fresco_style_on), ("fresco/style.off", laid_fresco_style_off)] }
def TapeJoinedSaid : Prop := tapeJoinedRow.holds Tryz.pinned (OpenSpec.ofChange tapeJoinedSpec)

/-- ITS FALSE NEIGHBOUR: 'it returns false'. Refute it at one input. -/
def tapeJoinedWrong : ChangeSpec := { name := "tapeJoined", fn := fun _ => fun
  | [d1, d2, d3, d4] => { results := [.lit (.bool false)], args := [d1, d2, d3, d4] }
  | _ => none }
def TapeJoinedWrongFalsely : Prop := tapeJoinedRow.holds Tryz.pinned (OpenSpec.ofChange tapeJoinedWrong)

/- THE SECOND FORM. 'bulk': how many values and letters a reading holds, each counted each time it is reached (what is shared counts as often as it is met; a slice's spare places count too). A statement '..UptoSaid' is the law's where the arguments, and the package variables that the reading takes, are together of bulk at most 1048576: NARROWER than '..Said'. Prove '..Said' where nothing that the law and all that it calls make is longer than what came in: it says more and counts as full. Else prove '..UptoSaid'. A law counts once. -/
mutual
def uptoBulk {H : Type} : DataW H → Nat
  | .lit (.string bytes) => bytes.length + 1
  | .lit _ => 1
  | .nil => 1
  | .ptr d => uptoBulk d + 1
  | .slice elems spare => uptoBulkAll elems + uptoBulkAll spare + 1
  | .agg parts => uptoBulkAll parts + 1
  | .iface _ d => uptoBulk d + 1
  | .map entries => uptoBulkEntries entries + 1
  | .held _ => 1
def uptoBulkAll {H : Type} : List (DataW H) → Nat
  | [] => 0
  | d :: r => uptoBulk d + uptoBulkAll r
def uptoBulkEntries {H : Type} : List (Lit × DataW H) → Nat
  | [] => 0
  | x :: r => uptoBulkEntry x + uptoBulkEntries r
def uptoBulkEntry {H : Type} : Lit × DataW H → Nat
  | (.string bytes, d) => bytes.length + uptoBulk d + 1
  | (_, d) => uptoBulk d + 1
 end
def uptoSmall : (H : Type) → List (DataW H) → Bool := fun _ ds => decide (uptoBulkAll ds ≤ 1048576)
def OpenSpec.upto (s : _root_.Go.ChangeSpec) : _root_.Go.OpenSpec := { _root_.Go.OpenSpec.ofChange s with cond := some uptoSmall }

/-- 'frescolaw30.TapeEncodes', WHERE WHAT IT READS IS OF BULK AT MOST 1048576: true; the input reads as it did. -/
def tapeEncodesUptoRow : OpenClaim := { program := "ytmaofighbpnbiaagreatdoor", sum := "5f4ca23beea84c3828a495b8f075d3693876e2ca175942c1cc3ed674f216c4ab", func := "fresco/frescolaw30.TapeEncodes", spec := "tapeEncodes", unfollowed := true, recurses := true, named := ["fresco/style.on", "fresco/style.off", "internal/strconv.uint64pow10", "math/bits.deBruijn32tab", "math/bits.deBruijn64tab"], apart := false, laid := [("math/bits.deBruijn32tab", laid_math_bits_deBruijn32tab), ("math/bits.deBruijn64tab", laid_math_bits_deBruijn64tab), ("internal/strconv.uint64pow10", laid_internal_strconv_uint64pow10), ("fresco/style.on", laid_fresco_style_on), ("fresco/style.off", laid_fresco_style_off)], narrowed := true }
def TapeEncodesUptoSaid : Prop := tapeEncodesUptoRow.holds Tryz.pinned (OpenSpec.upto tapeEncodesSpec)

/-- 'frescolaw30.TapeDecodes', WHERE WHAT IT READS IS OF BULK AT MOST 1048576: true; the input reads as it did. -/
def tapeDecodesUptoRow : OpenClaim := { program := "ytmaofighbpnbiaagreatdoor", sum := "5f4ca23beea84c3828a495b8f075d3693876e2ca175942c1cc3ed674f216c4ab", func := "fresco/frescolaw30.TapeDecodes", spec := "tapeDecodes", unfollowed := true, recurses := true, named := ["fresco/style.on", "fresco/style.off", "internal/strconv.uint64pow10", "math/bits.deBruijn32tab", "math/bits.deBruijn64tab"], apart := false, laid := [("math/bits.deBruijn32tab", laid_math_bits_deBruijn32tab), ("math/bits.deBruijn64tab", laid_math_bits_deBruijn64tab), ("internal/strconv.uint64pow10", laid_internal_strconv_uint64pow10), ("fresco/style.on", laid_fresco_style_on), ("fresco/style.off", laid_fresco_style_off)], narrowed := true }
def TapeDecodesUptoSaid : Prop := tapeDecodesUptoRow.holds Tryz.pinned (OpenSpec.upto tapeDecodesSpec)

/-- 'frescolaw30.TapeBack', WHERE WHAT IT READS IS OF BULK AT MOST 1048576: true; the input reads as it did. -/
def tapeBackUptoRow : OpenClaim := { program := "ytmaofighbpnbiaagreatdoor", sum := "5f4ca23beea84c3828a495b8f075d3693876e2ca175942c1cc3ed674f216c4ab", func := "fresco/frescolaw30.TapeBack", spec := "tapeBack", unfollowed := true, recurses := true, named := ["fresco/style.on", "fresco/style.off", "internal/strconv.uint64pow10", "math/bits.deBruijn32tab", "math/bits.deBruijn64tab"], apart := false, laid := [("math/bits.deBruijn32tab", laid_math_bits_deBruijn32tab), ("math/bits.deBruijn64tab", laid_math_bits_deBruijn64tab), ("internal/strconv.uint64pow10", laid_internal_strconv_uint64pow10), ("fresco/style.on", laid_fresco_style_on), ("fresco/style.off", laid_fresco_style_off)], narrowed := true }
def TapeBackUptoSaid : Prop := tapeBackUptoRow.holds Tryz.pinned (OpenSpec.upto tapeBackSpec)

/-- 'frescolaw30.TapeAnywhere', WHERE WHAT IT READS IS OF BULK AT MOST 1048576: true; the input reads as it did. -/
def tapeAnywhereUptoRow : OpenClaim := { program := "ytmaofighbpnbiaagreatdoor", sum := "5f4ca23beea84c3828a495b8f075d3693876e2ca175942c1cc3ed674f216c4ab", func := "fresco/frescolaw30.TapeAnywhere", spec := "tapeAnywhere", unfollowed := true, recurses := true, named := ["fresco/style.on", "fresco/style.off", "internal/strconv.uint64pow10", "math/bits.deBruijn32tab", "math/bits.deBruijn64tab"], apart := false, laid := [("math/bits.deBruijn32tab", laid_math_bits_deBruijn32tab), ("math/bits.deBruijn64tab", laid_math_bits_deBruijn64tab), ("internal/strconv.uint64pow10", laid_internal_strconv_uint64pow10), ("fresco/style.on", laid_fresco_style_on), ("fresco/style.off", laid_fresco_style_off)], narrowed := true }
def TapeAnywhereUptoSaid : Prop := tapeAnywhereUptoRow.holds Tryz.pinned (OpenSpec.upto tapeAnywhereSpec)

/-- 'frescolaw30.TapeNone', WHERE WHAT IT READS IS OF BULK AT MOST 1048576: true; the input reads as it did. -/
def tapeNoneUptoRow : OpenClaim := { program := "ytmaofighbpnbiaagreatdoor", sum := "5f4ca23beea84c3828a495b8f075d3693876e2ca175942c1cc3ed674f216c4ab", func := "fresco/frescolaw30.TapeNone", spec := "tapeNone", unfollowed := true, recurses := true, named := ["fresco/style.on", "fresco/style.off", "internal/strconv.uint64pow10", "math/bits.deBruijn32tab", "math/bits.deBruijn64tab"], apart := false, laid := [("math/bits.deBruijn32tab", laid_math_bits_deBruijn32tab), ("math/bits.deBruijn64tab", laid_math_bits_deBruijn64tab), ("internal/strconv.uint64pow10", laid_internal_strconv_uint64pow10), ("fresco/style.on", laid_fresco_style_on), ("fresco/style.off", laid_fresco_style_off)], narrowed := true }
def TapeNoneUptoSaid : Prop := tapeNoneUptoRow.holds Tryz.pinned (OpenSpec.upto tapeNoneSpec)

/-- 'frescolaw30.TapeKnown', WHERE WHAT IT READS IS OF BULK AT MOST 1048576: true; the input reads as it did. -/
def tapeKnownUptoRow : OpenClaim := { program := "ytmaofighbpnbiaagreatdoor", sum := "5f4ca23beea84c3828a495b8f075d3693876e2ca175942c1cc3ed674f216c4ab", func := "fresco/frescolaw30.TapeKnown", spec := "tapeKnown", unfollowed := true, recurses := true, named := ["fresco/style.on", "fresco/style.off", "internal/strconv.uint64pow10", "math/bits.deBruijn32tab", "math/bits.deBruijn64tab"], apart := false, laid := [("math/bits.deBruijn32tab", laid_math_bits_deBruijn32tab), ("math/bits.deBruijn64tab", laid_math_bits_deBruijn64tab), ("internal/strconv.uint64pow10", laid_internal_strconv_uint64pow10), ("fresco/style.on", laid_fresco_style_on), ("fresco/style.off", laid_fresco_style_off)], narrowed := true }
def TapeKnownUptoSaid : Prop := tapeKnownUptoRow.holds Tryz.pinned (OpenSpec.upto tapeKnownSpec)

/-- 'frescolaw30.TapeSqueezes', WHERE WHAT IT READS IS OF BULK AT MOST 1048576: true; the input reads as it did. -/
def tapeSqueezesUptoRow : OpenClaim := { program := "ytmaofighbpnbiaagreatdoor", sum := "5f4ca23beea84c3828a495b8f075d3693876e2ca175942c1cc3ed674f216c4ab", func := "fresco/frescolaw30.TapeSqueezes", spec := "tapeSqueezes", unfollowed := true, recurses := true, named := ["fresco/style.on", "fresco/style.off", "internal/strconv.uint64pow10", "math/bits.deBruijn32tab", "math/bits.deBruijn64tab"], apart := false, laid := [("math/bits.deBruijn32tab", laid_math_bits_deBruijn32tab), ("math/bits.deBruijn64tab", laid_math_bits_deBruijn64tab), ("internal/strconv.uint64pow10", laid_internal_strconv_uint64pow10), ("fresco/style.on", laid_fresco_style_on), ("fresco/style.off", laid_fresco_style_off)], narrowed := true }
def TapeSqueezesUptoSaid : Prop := tapeSqueezesUptoRow.holds Tryz.pinned (OpenSpec.upto tapeSqueezesSpec)

/-- 'frescolaw30.TapePauses', WHERE WHAT IT READS IS OF BULK AT MOST 1048576: true; the input reads as it did. -/
def tapePausesUptoRow : OpenClaim := { program := "ytmaofighbpnbiaagreatdoor", sum := "5f4ca23beea84c3828a495b8f075d3693876e2ca175942c1cc3ed674f216c4ab", func := "fresco/frescolaw30.TapePauses", spec := "tapePauses", unfollowed := true, recurses := true, named := ["fresco/style.on", "fresco/style.off", "internal/strconv.uint64pow10", "math/bits.deBruijn32tab", "math/bits.deBruijn64tab"], apart := false, laid := [("math/bits.deBruijn32tab", laid_math_bits_deBruijn32tab), ("math/bits.deBruijn64tab", laid_math_bits_deBruijn64tab), ("internal/strconv.uint64pow10", laid_internal_strconv_uint64pow10), ("fresco/style.on", laid_fresco_style_on), ("fresco/style.off", laid_fresco_style_off)], narrowed := true }
def TapePausesUptoSaid : Prop := tapePausesUptoRow.holds Tryz.pinned (OpenSpec.upto tapePausesSpec)

/-- 'frescolaw30.TapeJoins', WHERE WHAT IT READS IS OF BULK AT MOST 1048576: true; the input reads as it did. -/
def tapeJoinsUptoRow : OpenClaim := { program := "ytmaofighbpnbiaagreatdoor", sum := "5f4ca23beea84c3828a495b8f075d3693876e2ca175942c1cc3ed674f216c4ab", func := "fresco/frescolaw30.TapeJoins", spec := "tapeJoins", unfollowed := true, recurses := true, named := ["fresco/style.on", "fresco/style.off", "internal/strconv.uint64pow10", "math/bits.deBruijn32tab", "math/bits.deBruijn64tab"], apart := false, laid := [("math/bits.deBruijn32tab", laid_math_bits_deBruijn32tab), ("math/bits.deBruijn64tab", laid_math_bits_deBruijn64tab), ("internal/strconv.uint64pow10", laid_internal_strconv_uint64pow10), ("fresco/style.on", laid_fresco_style_on), ("fresco/style.off", laid_fresco_style_off)], narrowed := true }
def TapeJoinsUptoSaid : Prop := tapeJoinsUptoRow.holds Tryz.pinned (OpenSpec.upto tapeJoinsSpec)

/-- 'frescolaw30.TapeJoined', WHERE WHAT IT READS IS OF BULK AT MOST 1048576: true; the input reads as it did. -/
def tapeJoinedUptoRow : OpenClaim := { program := "ytmaofighbpnbiaagreatdoor", sum := "5f4ca23beea84c3828a495b8f075d3693876e2ca175942c1cc3ed674f216c4ab", func := "fresco/frescolaw30.TapeJoined", spec := "tapeJoined", unfollowed := true, recurses := true, named := ["fresco/style.on", "fresco/style.off", "internal/strconv.uint64pow10", "math/bits.deBruijn32tab", "math/bits.deBruijn64tab"], apart := false, laid := [("math/bits.deBruijn32tab", laid_math_bits_deBruijn32tab), ("math/bits.deBruijn64tab", laid_math_bits_deBruijn64tab), ("internal/strconv.uint64pow10", laid_internal_strconv_uint64pow10), ("fresco/style.on", laid_fresco_style_on), ("fresco/style.off", laid_fresco_style_off)], narrowed := true }
def TapeJoinedUptoSaid : Prop := tapeJoinedUptoRow.holds Tryz.pinned (OpenSpec.upto tapeJoinedSpec)

end Rows
end Go.Proofs.YtmaofighbpnbiaaGreatDoor
