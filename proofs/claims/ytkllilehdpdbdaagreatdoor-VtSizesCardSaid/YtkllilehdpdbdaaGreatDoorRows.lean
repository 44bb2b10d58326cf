/-
  NARROWER THAN 'FOR EVERY INPUT', by the rows' own cells (each row's printed sentence says how): VtAnswers: laid · VtKnown: laid · VtPieces: laid · VtReset: laid · VtSizes: laid · VtClones: laid · VtLong: laid · VtPlays: laid · VtNil: laid · VtRight: laid · VtRow: laid.
  DERIVED. THE GIVEN ROWS OF THIS SEAT. 11 by the template 'for every input the law returns true; each argument reads behind the call as it read before'; 0 by the template 'total and deterministic' (their statements: YtkllilehdpdbdaaGreatDoorTotals.lean).
  GIVEN WITH THE SEED: the statements are not yours to turn. If you find one false, say at which input.
  Laid BY PROGRAM, IN A SANDBOX (cutbox-rows.mjs): the forced cells as the released guide's own fill.sh prints them over the translation ed1306cd87e96e0e… (all of the seat's roots in one cut). By AI agents, Wed Nov 11 2026. No macro, syntax, notation, axiom, sorry.
-/
import Derived.Test.YtkllilehdpdbdaaGreatDoorChecked
import GoSem.Claim
import GoSem.ClaimJoined
import GoSem.ClaimMapViews
import Derived.JoinedTies
import Derived.KernelRfl
namespace Go.Proofs.YtkllilehdpdbdaaGreatDoor
/- THE CELL 'sum', in the pinned program and in every row, IS THE sha256 OF THE DUMP (.gsa) THAT YtkllilehdpdbdaaGreatDoorProg.lean LOADS. Nothing in Lean hashes anything: it is a label: what it is worth is what the hold of that sum in a sandbox is worth. -/
noncomputable def Tryz.pinned : Pinned := { name := "ytkllilehdpdbdaagreatdoor", sum := "ed1306cd87e96e0ecbc82b20464b781138a8fec423a9577dc359c28a8e8199e9", checked := Tryz.checked }
namespace Rows
def none {H : Type} : Left H := { results := [], args := [] }

/- WHAT THE LISTED PACKAGE-LEVEL VARIABLES READ AS WHEN THE CALL BEGINS. Each datum BY PROGRAM (the guide's laid-datum.mjs) off the statement by which the dump's own 'gosem.cut.vars' lays the variable. In a bare row this is a premise. The card (YtkllilehdpdbdaaGreatDoorCards.lean) ties it to the program's text. -/
def laid_math_bits_deBruijn32tab {H : Type} : DataW H := .agg [.lit (.int .u8 0), .lit (.int .u8 1), .lit (.int .u8 28), .lit (.int .u8 2), .lit (.int .u8 29), .lit (.int .u8 14), .lit (.int .u8 24), .lit (.int .u8 3), .lit (.int .u8 30), .lit (.int .u8 22), .lit (.int .u8 20), .lit (.int .u8 15), .lit (.int .u8 25), .lit (.int .u8 17), .lit (.int .u8 4), .lit (.int .u8 8), .lit (.int .u8 31), .lit (.int .u8 27), .lit (.int .u8 13), .lit (.int .u8 23), .lit (.int .u8 21), .lit (.int .u8 19), .lit (.int .u8 16), .lit (.int .u8 7), .lit (.int .u8 26), .lit (.int .u8 12), .lit (.int .u8 18), .lit (.int .u8 6), .lit (.int .u8 11), .lit (.int .u8 5), .lit (.int .u8 10), .lit (.int .u8 9)]
def laid_math_bits_deBruijn64tab {H : Type} : DataW H := .agg [.lit (.int .u8 0), .lit (.int .u8 1), .lit (.int .u8 56), .lit (.int .u8 2), .lit (.int .u8 57), .lit (.int .u8 49), .lit (.int .u8 28), .lit (.int .u8 3), .lit (.int .u8 61), .lit (.int .u8 58), .lit (.int .u8 42), .lit (.int .u8 50), .lit (.int .u8 38), .lit (.int .u8 29), .lit (.int .u8 17), .lit (.int .u8 4), .lit (.int .u8 62), .lit (.int .u8 47), .lit (.int .u8 59), .lit (.int .u8 36), .lit (.int .u8 45), .lit (.int .u8 43), .lit (.int .u8 51), .lit (.int .u8 22), .lit (.int .u8 53), .lit (.int .u8 39), .lit (.int .u8 33), .lit (.int .u8 30), .lit (.int .u8 24), .lit (.int .u8 18), .lit (.int .u8 12), .lit (.int .u8 5), .lit (.int .u8 63), .lit (.int .u8 55), .lit (.int .u8 48), .lit (.int .u8 27), .lit (.int .u8 60), .lit (.int .u8 41), .lit (.int .u8 37), .lit (.int .u8 16), .lit (.int .u8 46), .lit (.int .u8 35), .lit (.int .u8 44), .lit (.int .u8 21), .lit (.int .u8 52), .lit (.int .u8 32), .lit (.int .u8 23), .lit (.int .u8 11), .lit (.int .u8 54), .lit (.int .u8 26), .lit (.int .u8 40), .lit (.int .u8 15), .lit (.int .u8 34), .lit (.int .u8 20), .lit (.int .u8 31), .lit (.int .u8 10), .lit (.int .u8 25), .lit (.int .u8 14), .lit (.int .u8 19), .lit (.int .u8 9), .lit (.int .u8 13), .lit (.int .u8 8), .lit (.int .u8 7), .lit (.int .u8 6)]
def laid_internal_strconv_uint64pow10 {H : Type} : DataW H := .agg [.lit (.int .u64 1), .lit (.int .u64 10), .lit (.int .u64 100), .lit (.int .u64 1000), .lit (.int .u64 10000), .lit (.int .u64 100000), .lit (.int .u64 1000000), .lit (.int .u64 10000000), .lit (.int .u64 100000000), .lit (.int .u64 1000000000), .lit (.int .u64 10000000000), .lit (.int .u64 100000000000), .lit (.int .u64 1000000000000), .lit (.int .u64 10000000000000), .lit (.int .u64 100000000000000), .lit (.int .u64 1000000000000000), .lit (.int .u64 10000000000000000), .lit (.int .u64 100000000000000000), .lit (.int .u64 1000000000000000000), .lit (.int .u64 10000000000000000000)]
def laid_fresco_style_on {H : Type} : DataW H := .agg [.lit (.int .i64 1), .lit (.int .i64 2), .lit (.int .i64 3), .lit (.int .i64 4), .lit (.int .i64 5), .lit (.int .i64 7), .lit (.int .i64 8), .lit (.int .i64 9)]
def laid_fresco_style_off {H : Type} : DataW H := .agg [.lit (.int .i64 22), .lit (.int .i64 22), .lit (.int .i64 23), .lit (.int .i64 24), .lit (.int .i64 25), .lit (.int .i64 27), .lit (.int .i64 28), .lit (.int .i64 29)]

/-- 'frescolaw26.VtAnswers': WHATEVER THE INPUT: true; the input reads as it did. -/
def vtAnswersSpec : ChangeSpec := { name := "vtAnswers", fn := fun _ => fun
  | [d1, d2] => { results := [.lit (.bool true)], args := [d1, d2] }
  | _ => none }
def vtAnswersRow : OpenClaim := { program := "ytkllilehdpdbdaagreatdoor", sum := "ed1306cd87e96e0ecbc82b20464b781138a8fec423a9577dc359c28a8e8199e9", func := "fresco/frescolaw26.VtAnswers", spec := "vtAnswers", unfollowed := true, recurses := true, named := ["fresco/style.on", "fresco/style.off", "internal/strconv.uint64pow10", "math/bits.deBruijn32tab", "math/bits.deBruijn64tab"], apart := false, laid := [("math/bits.deBruijn32tab", laid_math_bits_deBruijn32tab), ("math/bits.deBruijn64tab", laid_math_bits_deBruijn64tab), ("internal/strconv.uint64pow10", laid_internal_strconv_uint64pow10), ("fresco/style.on", laid_fresco_style_on), ("fresco/style.off", laid_fresco_style_off)] }
def VtAnswersSaid : Prop := vtAnswersRow.holds Tryz.pinned (OpenSpec.ofChange vtAnswersSpec)

/-- ITS FALSE NEIGHBOUR: 'it returns false'. Refute it at one input. -/
def vtAnswersWrong : ChangeSpec := { name := "vtAnswers", fn := fun _ => fun
  | [d1, d2] => { results := [.lit (.bool false)], args := [d1, d2] }
  | _ => none }
def VtAnswersWrongFalsely : Prop := vtAnswersRow.holds Tryz.pinned (OpenSpec.ofChange vtAnswersWrong)

/-- 'frescolaw26.VtKnown': WHATEVER THE INPUT: true; the input reads as it did. -/
def vtKnownSpec : ChangeSpec := { name := "vtKnown", fn := fun _ => fun
  | [] => { results := [.lit (.bool true)], args := [] }
  | _ => none }
def vtKnownRow : OpenClaim := { program := "ytkllilehdpdbdaagreatdoor", sum := "ed1306cd87e96e0ecbc82b20464b781138a8fec423a9577dc359c28a8e8199e9", func := "fresco/frescolaw26.VtKnown", spec := "vtKnown", unfollowed := true, recurses := true, named := ["fresco/style.on", "fresco/style.off", "internal/strconv.uint64pow10", "math/bits.deBruijn32tab", "math/bits.deBruijn64tab"], apart := false, laid := [("math/bits.deBruijn32tab", laid_math_bits_deBruijn32tab), ("math/bits.deBruijn64tab", laid_math_bits_deBruijn64tab), ("internal/strconv.uint64pow10", laid_internal_strconv_uint64pow10), ("fresco/style.on", laid_fresco_style_on), ("fresco/style.off", laid_fresco_style_off)] }
def VtKnownSaid : Prop := vtKnownRow.holds Tryz.pinned (OpenSpec.ofChange vtKnownSpec)

/-- ITS FALSE NEIGHBOUR: 'it returns false'. Refute it at one input. -/
def vtKnownWrong : ChangeSpec := { name := "vtKnown", fn := fun _ => fun
  | [] => { results := [.lit (.bool false)], args := [] }
  | _ => none }
def VtKnownWrongFalsely : Prop := vtKnownRow.holds Tryz.pinned (OpenSpec.ofChange vtKnownWrong)

/-- 'frescolaw26.VtPieces': WHATEVER THE INPUT: true; the input reads as it did. -/
def vtPiecesSpec : ChangeSpec := { name := "vtPieces", fn := fun _ => fun
  | [d1, d2, d3, d4] => { results := [.lit (.bool true)], args := [d1, d2, d3, d4] }
  | _ => none }
def vtPiecesRow : OpenClaim := { program := "ytkllilehdpdbdaagreatdoor", sum := "ed1306cd87e96e0ecbc82b20464b781138a8fec423a9577dc359c28a8e8199e9", func := "fresco/frescolaw26.VtPieces", spec := "vtPieces", unfollowed := true, recurses := true, named := ["fresco/style.on", "fresco/style.off", "internal/strconv.uint64pow10", "math/bits.deBruijn32tab", "math/bits.deBruijn64tab"], apart := false, laid := [("math/bits.deBruijn32tab", laid_math_bits_deBruijn32tab), ("math/bits.deBruijn64tab", laid_math_bits_deBruijn64tab), ("internal/strconv.uint64pow10", laid_internal_strconv_uint64pow10), ("fresco/style.on", laid_fresco_style_on), ("fresco/style.off", laid_fresco_style_off)] }
def VtPiecesSaid : Prop := vtPiecesRow.holds Tryz.pinned (OpenSpec.ofChange vtPiecesSpec)

/-- ITS FALSE NEIGHBOUR: 'it returns false'. Refute it at one input. -/
def vtPiecesWrong : ChangeSpec := { name := "vtPieces", fn := fun _ => fun
  | [d1, d2, d3, d4] => { results := [.lit (.bool false)], args := [d1, d2, d3, d4] }
  | _ => none }
def VtPiecesWrongFalsely : Prop := vtPiecesRow.holds Tryz.pinned (OpenSpec.ofChange vtPiecesWrong)

/-- 'frescolaw26.VtReset': WHATEVER THE INPUT: true; the input reads as it did. -/
def vtResetSpec : ChangeSpec := { name := "vtReset", fn := fun _ => fun
  | [d1, d2, d3, d4] => { results := [.lit (.bool true)], args := [d1, d2, d3, d4] }
  | _ => none }
def vtResetRow : OpenClaim := { program := "ytkllilehdpdbdaagreatdoor", sum := "ed1306cd87e96e0ecbc82b20464b781138a8fec423a9577dc359c28a8e8199e9", func := "fresco/frescolaw26.VtReset", spec := "vtReset", unfollowed := true, recurses := true, named := ["fresco/style.on", "fresco/style.off", "internal/strconv.uint64pow10", "math/bits.deBruijn32tab", "math/bits.deBruijn64tab"], apart := false, laid := [("math/bits.deBruijn32tab", laid_math_bits_deBruijn32tab), ("math/bits.deBruijn64tab", laid_math_bits_deBruijn64tab), ("internal/strconv.uint64pow10", laid_internal_strconv_uint64pow10), ("fresco/style.on", laid_fresco_style_on), ("fresco/style.off", laid_fresco_style_off)] }
def VtResetSaid : Prop := vtResetRow.holds Tryz.pinned (OpenSpec.ofChange vtResetSpec)

/-- ITS FALSE NEIGHBOUR: 'it returns false'. Refute it at one input. -/
def vtResetWrong : ChangeSpec := { name := "vtReset", fn := fun _ => fun
  | [d1, d2, d3, d4] => { results := [.lit (.bool false)], args := [d1, d2, d3, d4] }
  | _ => none }
def VtResetWrongFalsely : Prop := vtResetRow.holds Tryz.pinned (OpenSpec.ofChange vtResetWrong)

/-- 'frescolaw26.VtSizes': WHATEVER THE INPUT: true; the input reads as it did. -/
def vtSizesSpec : ChangeSpec := { name := "vtSizes", fn := fun _ => fun
  | [d1, d2, d3, d4] => { results := [.lit (.bool true)], args := [d1, d2, d3, d4] }
  | _ => none }
def vtSizesRow : OpenClaim := { program := "ytkllilehdpdbdaagreatdoor", sum := "ed1306cd87e96e0ecbc82b20464b781138a8fec423a9577dc359c28a8e8199e9", func := "fresco/frescolaw26.VtSizes", spec := "vtSizes", unfollowed := true, recurses := true, named := ["fresco/style.on", "fresco/style.off", "internal/strconv.uint64pow10", "math/bits.deBruijn32tab", "math/bits.deBruijn64tab"], apart := false, laid := [("math/bits.deBruijn32tab", laid_math_bits_deBruijn32tab), ("math/bits.deBruijn64tab", laid_math_bits_deBruijn64tab), ("internal/strconv.uint64pow10", laid_internal_strconv_uint64pow10), ("fresco/style.on", laid_fresco_style_on), ("fresco/style.off", laid_fresco_style_off)] }
def VtSizesSaid : Prop := vtSizesRow.holds Tryz.pinned (OpenSpec.ofChange vtSizesSpec)

/-- ITS FALSE NEIGHBOUR: 'it returns false'. Refute it at one input. -/
def vtSizesWrong : ChangeSpec := { name := "vtSizes", fn := fun _ => fun
  | [d1, d2, d3, d4] => { results := [.lit (.bool false)], args := [d1, d2, d3, d4] }
  | _ => none }
def VtSizesWrongFalsely : Prop := vtSizesRow.holds Tryz.pinned (OpenSpec.ofChange vtSizesWrong)

/-- 'frescolaw26.VtClones': WHATEVER THE INPUT: true; the input reads as it did. -/
def vtClonesSpec : ChangeSpec := { name := "vtClones", fn := fun _ => fun
  | [d1, d2, d3, d4, d5] => { results := [.lit (.bool true)], args := [d1, d2, d3, d4, d5] }
  | _ => none }
def vtClonesRow : OpenClaim := { program := "ytkllilehdpdbdaagreatdoor", sum := "ed1306cd87e96e0ecbc82b20464b781138a8fec423a9577dc359c28a8e8199e9", func := "fresco/frescolaw26.VtClones", spec := "vtClones", unfollowed := true, recurses := true, named := ["fresco/style.on", "fresco/style.off", "internal/strconv.uint64pow10", "math/bits.deBruijn32tab", "math/bits.deBruijn64tab"], apart := false, laid := [("math/bits.deBruijn32tab", laid_math_bits_deBruijn32tab), ("math/bits.deBruijn64tab", laid_math_bits_deBruijn64tab), ("internal/strconv.uint64pow10", laid_internal_strconv_uint64pow10), ("fresco/style.on", laid_fresco_style_on), ("fresco/style.off", laid_fresco_style_off)] }
def VtClonesSaid : Prop := vtClonesRow.holds Tryz.pinned (OpenSpec.ofChange vtClonesSpec)

/-- ITS FALSE NEIGHBOUR: 'it returns false'. Refute it at one input. -/
def vtClonesWrong : ChangeSpec := { name := "vtClones", fn := fun _ => fun
  | [d1, d2, d3, d4, d5] => { results := [.lit (.bool false)], args := [d1, d2, d3, d4, d5] }
  | _ => none }
def VtClonesWrongFalsely : Prop := vtClonesRow.holds Tryz.pinned (OpenSpec.ofChange vtClonesWrong)

/-- 'frescolaw26.VtLong': WHATEVER THE INPUT: true; the input reads as it did. -/
def vtLongSpec : ChangeSpec := { name := "vtLong", fn := fun _ => fun
  | [d1, d2] => { results := [.lit (.bool true)], args := [d1, d2] }
  | _ => none }
def vtLongRow : OpenClaim := { program := "ytkllilehdpdbdaagreatdoor", sum := "ed1306cd87e96e0ecbc82b20464b781138a8fec423a9577dc359c28a8e8199e9", func := "fresco/frescolaw26.VtLong", spec := "vtLong", unfollowed := true, recurses := true, named := ["fresco/style.on", "fresco/style.off", "internal/strconv.uint64pow10", "math/bits.deBruijn32tab", "math/bits.deBruijn64tab"], apart := false, laid := [("math/bits.deBruijn32tab", laid_math_bits_deBruijn32tab), ("math/bits.deBruijn64tab", laid_math_bits_deBruijn64tab), ("internal/strconv.uint64pow10", laid_internal_strconv_uint64pow10), ("fresco/style.on", laid_fresco_style_on), ("fresco/style.off", laid_fresco_style_off)] }
def VtLongSaid : Prop := vtLongRow.holds Tryz.pinned (OpenSpec.ofChange vtLongSpec)

/-- ITS FALSE NEIGHBOUR: 'it returns false'. Refute it at one input. -/
def vtLongWrong : ChangeSpec := { name := "vtLong", fn := fun _ => fun
  | [d1, d2] => { results := [.lit (.bool false)], args := [d1, d2] }
  | _ => none }
def VtLongWrongFalsely : Prop := vtLongRow.holds Tryz.pinned (OpenSpec.ofChange vtLongWrong)

/-- 'frescolaw26.VtPlays': WHATEVER THE INPUT: true; the input reads as it did. -/
def vtPlaysSpec : ChangeSpec := { name := "vtPlays", fn := fun _ => fun
  | [d1, d2, d3] => { results := [.lit (.bool true)], args := [d1, d2, d3] }
  | _ => none }
def vtPlaysRow : OpenClaim := { program := "ytkllilehdpdbdaagreatdoor", sum := "ed1306cd87e96e0ecbc82b20464b781138a8fec423a9577dc359c28a8e8199e9", func := "fresco/frescolaw26.VtPlays", spec := "vtPlays", unfollowed := true, recurses := true, named := ["fresco/style.on", "fresco/style.off", "internal/strconv.uint64pow10", "math/bits.deBruijn32tab", "math/bits.deBruijn64tab"], apart := false, laid := [("math/bits.deBruijn32tab", laid_math_bits_deBruijn32tab), ("math/bits.deBruijn64tab", laid_math_bits_deBruijn64tab), ("internal/strconv.uint64pow10", laid_internal_strconv_uint64pow10), ("fresco/style.on", laid_fresco_style_on), ("fresco/style.off", laid_fresco_style_off)] }
def VtPlaysSaid : Prop := vtPlaysRow.holds Tryz.pinned (OpenSpec.ofChange vtPlaysSpec)

/-- ITS FALSE NEIGHBOUR: 'it returns false'. Refute it at one input. -/
def vtPlaysWrong : ChangeSpec := { name := "vtPlays", fn := fun _ => fun
  | [d1, d2, d3] => { results := [.lit (.bool false)], args := [d1, d2, d3] }
  | _ => none }
def VtPlaysWrongFalsely : Prop := vtPlaysRow.holds Tryz.pinned (OpenSpec.ofChange vtPlaysWrong)

/-- 'frescolaw26.VtNil': WHATEVER THE INPUT: true; the input reads as it did. -/
def vtNilSpec : ChangeSpec := { name := "vtNil", fn := fun _ => fun
  | [d1, d2, d3] => { results := [.lit (.bool true)], args := [d1, d2, d3] }
  | _ => none }
def vtNilRow : OpenClaim := { program := "ytkllilehdpdbdaagreatdoor", sum := "ed1306cd87e96e0ecbc82b20464b781138a8fec423a9577dc359c28a8e8199e9", func := "fresco/frescolaw26.VtNil", spec := "vtNil", unfollowed := true, recurses := true, named := ["fresco/style.on", "fresco/style.off", "internal/strconv.uint64pow10", "math/bits.deBruijn32tab", "math/bits.deBruijn64tab"], apart := false, laid := [("math/bits.deBruijn32tab", laid_math_bits_deBruijn32tab), ("math/bits.deBruijn64tab", laid_math_bits_deBruijn64tab), ("internal/strconv.uint64pow10", laid_internal_strconv_uint64pow10), ("fresco/style.on", laid_fresco_style_on), ("fresco/style.off", laid_fresco_style_off)] }
def VtNilSaid : Prop := vtNilRow.holds Tryz.pinned (OpenSpec.ofChange vtNilSpec)

/-- ITS FALSE NEIGHBOUR: 'it returns false'. Refute it at one input. -/
def vtNilWrong : ChangeSpec := { name := "vtNil", fn := fun _ => fun
  | [d1, d2, d3] => { results := [.lit (.bool false)], args := [d1, d2, d3] }
  | _ => none }
def VtNilWrongFalsely : Prop := vtNilRow.holds Tryz.pinned (OpenSpec.ofChange vtNilWrong)

/-- 'frescolaw26.VtRight': WHATEVER THE INPUT: true; the input reads as it did. -/
def vtRightSpec : ChangeSpec := { name := "vtRight", fn := fun _ => fun
  | [d1, d2, d3, d4] => { results := [.lit (.bool true)], args := [d1, d2, d3, d4] }
  | _ => none }
def vtRightRow : OpenClaim := { program := "ytkllilehdpdbdaagreatdoor", sum := "ed1306cd87e96e0ecbc82b20464b781138a8fec423a9577dc359c28a8e8199e9", func := "fresco/frescolaw26.VtRight", spec := "vtRight", unfollowed := true, recurses := true, named := ["fresco/style.on", "fresco/style.off", "internal/strconv.uint64pow10", "math/bits.deBruijn32tab", "math/bits.deBruijn64tab"], apart := false, laid := [("math/bits.deBruijn32tab", laid_math_bits_deBruijn32tab), ("math/bits.deBruijn64tab", laid_math_bits_deBruijn64tab), ("internal/strconv.uint64pow10", laid_internal_strconv_uint64pow10), ("fresco/style.on", laid_fresco_style_on), ("fresco/style.off", laid_fresco_style_off)] }
def VtRightSaid : Prop := vtRightRow.holds Tryz.pinned (OpenSpec.ofChange vtRightSpec)

/-- ITS FALSE NEIGHBOUR: 'it returns false'. Refute it at one input. -/
def vtRightWrong : ChangeSpec := { name := "vtRight", fn := fun _ => fun
  | [d1, d2, d3, d4] => { results := [.lit (.bool false)], args := [d1, d2, d3, d4] }
  | _ => none }
def VtRightWrongFalsely : Prop := vtRightRow.holds Tryz.pinned (OpenSpec.ofChange vtRightWrong)

/-- 'frescolaw26.VtRow': WHATEVER THE INPUT: true; the input reads as it did. -/
def vtRowSpec : ChangeSpec := { name := "vtRow", fn := fun _ => fun
  | [d1, d2, d3] => { results := [.lit (.bool true)], args := [d1, d2, d3] }
  | _ => none }
def vtRowRow : OpenClaim := { program := "ytkllilehdpdbdaagreatdoor", sum := "ed1306cd87e96e0ecbc82b20464b781138a8fec423a9577dc359c28a8e8199e9", func := "fresco/frescolaw26.VtRow", spec := "vtRow", unfollowed := true, recurses := true, named := ["fresco/style.on", "fresco/style.off", "internal/strconv.uint64pow10", "math/bits.deBruijn32tab", "math/bits.deBruijn64tab"], apart := false, laid := [("math/bits.deBruijn32tab", laid_math_bits_deBruijn32tab), ("math/bits.deBruijn64tab", laid_math_bits_deBruijn64tab), ("internal/strconv.uint64pow10", laid_internal_strconv_uint64pow10), ("fresco/style.on", laid_fresco_style_on), ("fresco/style.off", laid_fresco_style_off)] }
def VtRowSaid : Prop := vtRowRow.holds Tryz.pinned (OpenSpec.ofChange vtRowSpec)

/-- ITS FALSE NEIGHBOUR: 'it returns false'. Refute it at one input. -/
def vtRowWrong : ChangeSpec := { name := "vtRow", fn := fun _ => fun
  | [d1, d2, d3] => { results := [.lit (.bool false)], args := [d1, d2, d3] }
  | _ => none }
def VtRowWrongFalsely : Prop := vtRowRow.holds Tryz.pinned (OpenSpec.ofChange vtRowWrong)

/- THE SECOND FORM. 'bulk': how many values and letters a reading holds, each counted each time it is reached (what is shared counts as often as it is met; a slice's spare places count too). A statement '..UptoSaid' is the law's where the arguments, and the package variables that the reading takes, are together of bulk at most 1048576: NARROWER than '..Said'. Prove '..Said' where nothing that the law and all that it calls make is longer than what came in: it says more and counts as full. Else prove '..UptoSaid'. A law counts once. -/
mutual
def uptoBulk {H : Type} : DataW H → Nat
  | .lit (.string bytes) => bytes.length + 1
  | .lit _ => 1
  | .nil => 1
  | .ptr d => uptoBulk d + 1
  | .slice elems spare => uptoBulkAll elems + uptoBulkAll spare + 1
  | .agg parts => uptoBulkAll parts + 1
  | .iface _ d => uptoBulk d + 1
  | .map entries => uptoBulkEntries entries + 1
  | .held _ => 1
def uptoBulkAll {H : Type} : List (DataW H) → Nat
  | [] => 0
  | d :: r => uptoBulk d + uptoBulkAll r
def uptoBulkEntries {H : Type} : List (Lit × DataW H) → Nat
  | [] => 0
  | x :: r => uptoBulkEntry x + uptoBulkEntries r
def uptoBulkEntry {H : Type} : Lit × DataW H → Nat
  | (.string bytes, d) => bytes.length + uptoBulk d + 1
  | (_, d) => uptoBulk d + 1
 end
def uptoSmall : (H : Type) → List (DataW H) → Bool := fun _ ds => decide (uptoBulkAll ds ≤ 1048576)
def OpenSpec.upto (s : _root_.Go.ChangeSpec) : _root_.Go.OpenSpec := { _root_.Go.OpenSpec.ofChange s with cond := some uptoSmall }

/-- 'frescolaw26.VtAnswers', WHERE WHAT IT READS IS OF BULK AT MOST 1048576: true; the input reads as it did. -/
def vtAnswersUptoRow : OpenClaim := { program := "ytkllilehdpdbdaagreatdoor", sum := "ed1306cd87e96e0ecbc82b20464b781138a8fec423a9577dc359c28a8e8199e9", func := "fresco/frescolaw26.VtAnswers", spec := "vtAnswers", unfollowed := true, recurses := true, named := ["fresco/style.on", "fresco/style.off", "internal/strconv.uint64pow10", "math/bits.deBruijn32tab", "math/bits.deBruijn64tab"], apart := false, laid := [("math/bits.deBruijn32tab", laid_math_bits_deBruijn32tab), ("math/bits.deBruijn64tab", laid_math_bits_deBruijn64tab), ("internal/strconv.uint64pow10", laid_internal_strconv_uint64pow10), ("fresco/style.on", laid_fresco_style_on), ("fresco/style.off", laid_fresco_style_off)], narrowed := true }
def VtAnswersUptoSaid : Prop := vtAnswersUptoRow.holds Tryz.pinned (OpenSpec.upto vtAnswersSpec)

/-- 'frescolaw26.VtKnown', WHERE WHAT IT READS IS OF BULK AT MOST 1048576: true; the input reads as it did. -/
def vtKnownUptoRow : OpenClaim := { program := "ytkllilehdpdbdaagreatdoor", sum := "ed1306cd87e96e0ecbc82b20464b781138a8fec423a9577dc359c28a8e8199e9", func := "fresco/frescolaw26.VtKnown", spec := "vtKnown", unfollowed := true, recurses := true, named := ["fresco/style.on", "fresco/style.off", "internal/strconv.uint64pow10", "math/bits.deBruijn32tab", "math/bits.deBruijn64tab"], apart := false, laid := [("math/bits.deBruijn32tab", laid_math_bits_deBruijn32tab), ("math/bits.deBruijn64tab", laid_math_bits_deBruijn64tab), ("internal/strconv.uint64pow10", laid_internal_strconv_uint64pow10), ("fresco/style.on", laid_fresco_style_on), ("fresco/style.off", laid_fresco_style_off)], narrowed := true }
def VtKnownUptoSaid : Prop := vtKnownUptoRow.holds Tryz.pinned (OpenSpec.upto vtKnownSpec)

/-- 'frescolaw26.VtPieces', WHERE WHAT IT READS IS OF BULK AT MOST 1048576: true; the input reads as it did. -/
def vtPiecesUptoRow : OpenClaim := { program := "ytkllilehdpdbdaagreatdoor", sum := "ed1306cd87e96e0ecbc82b20464b781138a8fec423a9577dc359c28a8e8199e9", func := "fresco/frescolaw26.VtPieces", spec := "vtPieces", unfollowed := true, recurses := true, named := ["fresco/style.on", "fresco/style.off", "internal/strconv.uint64pow10", "math/bits.deBruijn32tab", "math/bits.deBruijn64tab"], apart := false, laid := [("math/bits.deBruijn32tab", laid_math_bits_deBruijn32tab), ("math/bits.deBruijn64tab", laid_math_bits_deBruijn64tab), ("internal/strconv.uint64pow10", laid_internal_strconv_uint64pow10), ("fresco/style.on", laid_fresco_style_on), ("fresco/style.off", laid_fresco_style_off)], narrowed := true }
def VtPiecesUptoSaid : Prop := vtPiecesUptoRow.holds Tryz.pinned (OpenSpec.upto vtPiecesSpec)

/-- 'frescolaw26.VtReset', WHERE WHAT IT READS IS OF BULK AT MOST 1048576: true; the input reads as it did. -/
def vtResetUptoRow : OpenClaim := { program := "ytkllilehdpdbdaagreatdoor", sum := "ed1306cd87e96e0ecbc82b20464b781138a8fec423a9577dc359c28a8e8199e9", func := "fresco/frescolaw26.VtReset", spec := "vtReset", unfollowed := true, recurses := true, named := ["fresco/style.on", "fresco/style.off", "internal/strconv.uint64pow10", "math/bits.deBruijn32tab", "math/bits.deBruijn64tab"], apart := false, laid := [("math/bits.deBruijn32tab", laid_math_bits_deBruijn32tab), ("math/bits.deBruijn64tab", laid_math_bits_deBruijn64tab), ("internal/strconv.uint64pow10", laid_internal_strconv_uint64pow10), ("fresco/style.on", laid_fresco_style_on), ("fresco/style.off", laid_fresco_style_off)], narrowed := true }
def VtResetUptoSaid : Prop := vtResetUptoRow.holds Tryz.pinned (OpenSpec.upto vtResetSpec)

/-- 'frescolaw26.VtSizes', WHERE WHAT IT READS IS OF BULK AT MOST 1048576: true; the input reads as it did. -/
def vtSizesUptoRow : OpenClaim := { program := "ytkllilehdpdbdaagreatdoor", sum := "ed1306cd87e96e0ecbc82b20464b781138a8fec423a9577dc359c28a8e8199e9", func := "fresco/frescolaw26.VtSizes", spec := "vtSizes", unfollowed := true, recurses := true, named := ["fresco/style.on", "fresco/style.off", "internal/strconv.uint64pow10", "math/bits.deBruijn32tab", "math/bits.deBruijn64tab"], apart := false, laid := [("math/bits.deBruijn32tab", laid_math_bits_deBruijn32tab), ("math/bits.deBruijn64tab", laid_math_bits_deBruijn64tab), ("internal/strconv.uint64pow10", laid_internal_strconv_uint64pow10), ("fresco/style.on", laid_fresco_style_on), ("fresco/style.off", laid_fresco_style_off)], narrowed := true }
def VtSizesUptoSaid : Prop := vtSizesUptoRow.holds Tryz.pinned (OpenSpec.upto vtSizesSpec)

/-- 'frescolaw26.VtClones', WHERE WHAT IT READS IS OF BULK AT MOST 1048576: true; the input reads as it did. -/
def vtClonesUptoRow : OpenClaim := { program := "ytkllilehdpdbdaagreatdoor", sum := "ed1306cd87e96e0ecbc82b20464b781138a8fec423a9577dc359c28a8e8199e9", func := "fresco/frescolaw26.VtClones", spec := "vtClones", unfollowed := true, recurses := true, named := ["fresco/style.on", "fresco/style.off", "internal/strconv.uint64pow10", "math/bits.deBruijn32tab", "math/bits.deBruijn64tab"], apart := false, laid := [("math/bits.deBruijn32tab", laid_math_bits_deBruijn32tab), ("math/bits.deBruijn64tab", laid_math_bits_deBruijn64tab), ("internal/strconv.uint64pow10", laid_internal_strconv_uint64pow10), ("fresco/style.on", laid_fresco_style_on), ("fresco/style.off", laid_fresco_style_off)], narrowed := true }
def VtClonesUptoSaid : Prop := vtClonesUptoRow.holds Tryz.pinned (OpenSpec.upto vtClonesSpec)

/-- 'frescolaw26.VtLong', WHERE WHAT IT READS IS OF BULK AT MOST 1048576: true; the input reads as it did. -/
def vtLongUptoRow : OpenClaim := { program := "ytkllilehdpdbdaagreatdoor", sum := "ed1306cd87e96e0ecbc82b20464b781138a8fec423a9577dc359c28a8e8199e9", func := "fresco/frescolaw26.VtLong", spec := "vtLong", unfollowed := true, recurses := true, named := ["fresco/style.on", "fresco/style.off", "internal/strconv.uint64pow10", "math/bits.deBruijn32tab", "math/bits.deBruijn64tab"], apart := false, laid := [("math/bits.deBruijn32tab", laid_math_bits_deBruijn32tab), ("math/bits.deBruijn64tab", laid_math_bits_deBruijn64tab), ("internal/strconv.uint64pow10", laid_internal_strconv_uint64pow10), ("fresco/style.on", laid_fresco_style_on), ("fresco/style.off", laid_fresco_style_off)], narrowed := true }
def VtLongUptoSaid : Prop := vtLongUptoRow.holds Tryz.pinned (OpenSpec.upto vtLongSpec)

/-- 'frescolaw26.VtPlays', WHERE WHAT IT READS IS OF BULK AT MOST 1048576: true; the input reads as it did. -/
def vtPlaysUptoRow : OpenClaim := { program := "ytkllilehdpdbdaagreatdoor", sum := "ed1306cd87e96e0ecbc82b20464b781138a8fec423a9577dc359c28a8e8199e9", func := "fresco/frescolaw26.VtPlays", spec := "vtPlays", unfollowed := true, recurses := true, named := ["fresco/style.on", "fresco/style.off", "internal/strconv.uint64pow10", "math/bits.deBruijn32tab", "math/bits.deBruijn64tab"], apart := false, laid := [("math/bits.deBruijn32tab", laid_math_bits_deBruijn32tab), ("math/bits.deBruijn64tab", laid_math_bits_deBruijn64tab), ("internal/strconv.uint64pow10", laid_internal_strconv_uint64pow10), ("fresco/style.on", laid_fresco_style_on), ("fresco/style.off", laid_fresco_style_off)], narrowed := true }
def VtPlaysUptoSaid : Prop := vtPlaysUptoRow.holds Tryz.pinned (OpenSpec.upto vtPlaysSpec)

/-- 'frescolaw26.VtNil', WHERE WHAT IT READS IS OF BULK AT MOST 1048576: true; the input reads as it did. -/
def vtNilUptoRow : OpenClaim := { program := "ytkllilehdpdbdaagreatdoor", sum := "ed1306cd87e96e0ecbc82b20464b781138a8fec423a9577dc359c28a8e8199e9", func := "fresco/frescolaw26.VtNil", spec := "vtNil", unfollowed := true, recurses := true, named := ["fresco/style.on", "fresco/style.off", "internal/strconv.uint64pow10", "math/bits.deBruijn32tab", "math/bits.deBruijn64tab"], apart := false, laid := [("math/bits.deBruijn32tab", laid_math_bits_deBruijn32tab), ("math/bits.deBruijn64tab", laid_math_bits_deBruijn64tab), ("internal/strconv.uint64pow10", laid_internal_strconv_uint64pow10), ("fresco/style.on", laid_fresco_style_on), ("fresco/style.off", laid_fresco_style_off)], narrowed := true }
def VtNilUptoSaid : Prop := vtNilUptoRow.holds Tryz.pinned (OpenSpec.upto vtNilSpec)

/-- 'frescolaw26.VtRight', WHERE WHAT IT READS IS OF BULK AT MOST 1048576: true; the input reads as it did. -/
def vtRightUptoRow : OpenClaim := { program := "ytkllilehdpdbdaagreatdoor", sum := "ed1306cd87e96e0ecbc82b20464b781138a8fec423a9577dc359c28a8e8199e9", func := "fresco/frescolaw26.VtRight", spec := "vtRight", unfollowed := true, recurses := true, named := ["fresco/style.on", "fresco/style.off", "internal/strconv.uint64pow10", "math/bits.deBruijn32tab", "math/bits.deBruijn64tab"], apart := false, laid := [("math/bits.deBruijn32tab", laid_math_bits_deBruijn32tab), ("math/bits.deBruijn64tab", laid_math_bits_deBruijn64tab), ("internal/strconv.uint64pow10", laid_internal_strconv_uint64pow10), ("fresco/style.on", laid_fresco_style_on), ("fresco/style.off", laid_fresco_style_off)], narrowed := true }
def VtRightUptoSaid : Prop := vtRightUptoRow.holds Tryz.pinned (OpenSpec.upto vtRightSpec)

/-- 'frescolaw26.VtRow', WHERE WHAT IT READS IS OF BULK AT MOST 1048576: true; the input reads as it did. -/
def vtRowUptoRow : OpenClaim := { program := "ytkllilehdpdbdaagreatdoor", sum := "ed1306cd87e96e0ecbc82b20464b781138a8fec423a9577dc359c28a8e8199e9", func := "fresco/frescolaw26.VtRow", spec := "vtRow", unfollowed := true, recurses := true, named := ["fresco/style.on", "fresco/style.off", "internal/strconv.uint64pow10", "math/bits.deBruijn32tab", "math/bits.deBruijn64tab"], apart := false, laid := [("math/bits.deBruijn32tab", laid_math_bits_deBruijn32tab), ("math/bits.deBruijn64tab", laid_math_bits_deBruijn64tab), ("internal/strconv.uint64pow10", laid_internal_strconv_uint64pow10), ("fresco/style.on", laid_fresco_style_on), ("fresco/style.off", laid_fresco_style_off)], narrowed := true }
def VtRowUptoSaid : Prop := vtRowUptoRow.holds Tryz.pinned (OpenSpec.upto vtRowSpec)

end Rows
end Go.Proofs.YtkllilehdpdbdaaGreatDoor
