/-
  NARROWER THAN 'FOR EVERY INPUT', by the rows' own cells (each row's printed sentence says how): StyleParams: laid · StyleApply: laid · StyleParse: laid · StyleTells: laid · StyleOver: laid · StyleThen: laid · StyleReduce: laid · StyleCounts: laid · StyleRows: laid · StyleText: laid · StyleBack: laid · StyleKnown: laid.
  DERIVED. THE GIVEN ROWS OF THIS SEAT. 12 by the template 'for every input the law returns true; each argument reads behind the call as it read before'; 0 by the template 'total and deterministic' (their statements: YthcdcbibbfdjmaaDoorTotals.lean).
  GIVEN WITH THE SEED: the statements are not yours to turn. If you find one false, say at which input.
  Laid BY PROGRAM, IN A SANDBOX (cutbox-rows.mjs): the forced cells as the released guide's own fill.sh prints them over the translation bdd3f4bc60ba6163… (all of the seat's roots in one cut). By AI agents, Wed Nov 11 2026. No macro, syntax, notation, axiom, sorry.
-/
import Derived.Test.YthcdcbibbfdjmaaDoorChecked
import GoSem.Claim
import GoSem.ClaimJoined
import GoSem.ClaimMapViews
import Derived.JoinedTies
import Derived.KernelRfl
namespace Go.Proofs.YthcdcbibbfdjmaaDoor
/- THE CELL 'sum', in the pinned program and in every row, IS THE sha256 OF THE DUMP (.gsa) THAT YthcdcbibbfdjmaaDoorProg.lean LOADS. Nothing in Lean hashes anything: it is a label: what it is worth is what the hold of that sum in a sandbox is worth. -/
noncomputable def Tryd.pinned : Pinned := { name := "ythcdcbibbfdjmaadoor", sum := "bdd3f4bc60ba6163321f8ce8194b1480ce2cae7711c42c496b5741bad82c0177", checked := Tryd.checked }
namespace Rows
def none {H : Type} : Left H := { results := [], args := [] }

/- WHAT THE LISTED PACKAGE-LEVEL VARIABLES READ AS WHEN THE CALL BEGINS. Each datum BY PROGRAM (the guide's laid-datum.mjs) off the statement by which the dump's own 'gosem.cut.vars' lays the variable. In a bare row this is a premise. The card (YthcdcbibbfdjmaaDoorCards.lean) ties it to the program's text. -/
def laid_math_bits_deBruijn32tab {H : Type} : DataW H := .agg [.lit (.int .u8 0), .lit (.int .u8 1), .lit (.int .u8 28), .lit (.int .u8 2), .lit (.int .u8 29), .lit (.int .u8 14), .lit (.int .u8 24), .lit (.int .u8 3), .lit (.int .u8 30), .lit (.int .u8 22), .lit (.int .u8 20), .lit (.int .u8 15), .lit (.int .u8 25), .lit (.int .u8 17), .lit (.int .u8 4), .lit (.int .u8 8), .lit (.int .u8 31), .lit (.int .u8 27), .lit (.int .u8 13), .lit (.int .u8 23), .lit (.int .u8 21), .lit (.int .u8 19), .lit (.int .u8 16), .lit (.int .u8 7), .lit (.int .u8 26), .lit (.int .u8 12), .lit (.int .u8 18), .lit (.int .u8 6), .lit (.int .u8 11), .lit (.int .u8 5), .lit (.int .u8 10), .lit (.int .u8 9)]
def laid_math_bits_deBruijn64tab {H : Type} : DataW H := .agg [.lit (.int .u8 0), .lit (.int .u8 1), .lit (.int .u8 56), .lit (.int .u8 2), .lit (.int .u8 57), .lit (.int .u8 49), .lit (.int .u8 28), .lit (.int .u8 3), .lit (.int .u8 61), .lit (.int .u8 58), .lit (.int .u8 42), .lit (.int .u8 50), .lit (.int .u8 38), .lit (.int .u8 29), .lit (.int .u8 17), .lit (.int .u8 4), .lit (.int .u8 62), .lit (.int .u8 47), .lit (.int .u8 59), .lit (.int .u8 36), .lit (.int .u8 45), .lit (.int .u8 43), .lit (.int .u8 51), .lit (.int .u8 22), .lit (.int .u8 53), .lit (.int .u8 39), .lit (.int .u8 33), .lit (.int .u8 30), .lit (.int .u8 24), .lit (.int .u8 18), .lit (.int .u8 12), .lit (.int .u8 5), .lit (.int .u8 63), .lit (.int .u8 55), .lit (.int .u8 48), .lit (.int .u8 27), .lit (.int .u8 60), .lit (.int .u8 41), .lit (.int .u8 37), .lit (.int .u8 16), .lit (.int .u8 46), .lit (.int .u8 35), .lit (.int .u8 44), .lit (.int .u8 21), .lit (.int .u8 52), .lit (.int .u8 32), .lit (.int .u8 23), .lit (.int .u8 11), .lit (.int .u8 54), .lit (.int .u8 26), .lit (.int .u8 40), .lit (.int .u8 15), .lit (.int .u8 34), .lit (.int .u8 20), .lit (.int .u8 31), .lit (.int .u8 10), .lit (.int .u8 25), .lit (.int .u8 14), .lit (.int .u8 19), .lit (.int .u8 9), .lit (.int .u8 13), .lit (.int .u8 8), .lit (.int .u8 7), .lit (.int .u8 6)]
def laid_internal_strconv_uint64pow10 {H : Type} : DataW H := .agg [.lit (.int .u64 1), .lit (.int .u64 10), .lit (.int .u64 100), .lit (.int .u64 1000), .lit (.int .u64 10000), .lit (.int .u64 100000), .lit (.int .u64 1000000), .lit (.int .u64 10000000), .lit (.int .u64 100000000), .lit (.int .u64 1000000000), .lit (.int .u64 10000000000), .lit (.int .u64 100000000000), .lit (.int .u64 1000000000000), .lit (.int .u64 10000000000000), .lit (.int .u64 100000000000000), .lit (.int .u64 1000000000000000), .lit (.int .u64 10000000000000000), .lit (.int .u64 100000000000000000), .lit (.int .u64 1000000000000000000), .lit (.int .u64 10000000000000000000)]
def laid_strconv_ErrRange {H : Type} : DataW H := .iface "*errors.errorString" (.ptr (.agg [.lit (.string [118, 97, 108, 117, 101, 32, 111, 117, 116, 32, 111, 102, 32, 114, 97, 110, 103, 101])]))
def laid_strconv_ErrSyntax {H : Type} : DataW H := .iface "*errors.errorString" (.ptr (.agg [.lit (.string [105, 110, 118, 97, 108, 105, 100, 32, 115, 121, 110, 116, 97, 120])]))
def laid_fresco_style_names {H : Type} : DataW H := .agg [.lit (.string [98, 111, 108, 100]), .lit (.string [102, 97, 105, 110, 116]), .lit (.string [105, 116, 97, 108, 105, 99]), .lit (.string [117, 110, 100, 101, 114]), .lit (.string [98, 108, 105, 110, 107]), .lit (.string [114, 101, 118, 101, 114, 115, 101]), .lit (.string [104, 105, 100, 100, 101, 110]), .lit (.string [115, 116, 114, 105, 107, 101])]
def laid_fresco_style_on {H : Type} : DataW H := .agg [.lit (.int .i64 1), .lit (.int .i64 2), .lit (.int .i64 3), .lit (.int .i64 4), .lit (.int .i64 5), .lit (.int .i64 7), .lit (.int .i64 8), .lit (.int .i64 9)]
def laid_fresco_style_off {H : Type} : DataW H := .agg [.lit (.int .i64 22), .lit (.int .i64 22), .lit (.int .i64 23), .lit (.int .i64 24), .lit (.int .i64 25), .lit (.int .i64 27), .lit (.int .i64 28), .lit (.int .i64 29)]

/-- 'frescolaw06.StyleParams': WHATEVER THE INPUT: true; the input reads as it did. -/
def styleParamsSpec : ChangeSpec := { name := "styleParams", fn := fun _ => fun
  | [d1, d2, d3] => { results := [.lit (.bool true)], args := [d1, d2, d3] }
  | _ => none }
def styleParamsRow : OpenClaim := { program := "ythcdcbibbfdjmaadoor", sum := "bdd3f4bc60ba6163321f8ce8194b1480ce2cae7711c42c496b5741bad82c0177", func := "fresco/frescolaw06.StyleParams", spec := "styleParams", unfollowed := true, recurses := true, named := ["fresco/style.off", "fresco/style.on", "fresco/style.names", "strconv.ErrSyntax", "strconv.ErrRange", "internal/strconv.uint64pow10", "math/bits.deBruijn32tab", "math/bits.deBruijn64tab"], apart := false, laid := [("math/bits.deBruijn32tab", laid_math_bits_deBruijn32tab), ("math/bits.deBruijn64tab", laid_math_bits_deBruijn64tab), ("internal/strconv.uint64pow10", laid_internal_strconv_uint64pow10), ("strconv.ErrRange", laid_strconv_ErrRange), ("strconv.ErrSyntax", laid_strconv_ErrSyntax), ("fresco/style.names", laid_fresco_style_names), ("fresco/style.on", laid_fresco_style_on), ("fresco/style.off", laid_fresco_style_off)] }
def StyleParamsSaid : Prop := styleParamsRow.holds Tryd.pinned (OpenSpec.ofChange styleParamsSpec)

/-- ITS FALSE NEIGHBOUR: 'it returns false'. Refute it at one input. -/
def styleParamsWrong : ChangeSpec := { name := "styleParams", fn := fun _ => fun
  | [d1, d2, d3] => { results := [.lit (.bool false)], args := [d1, d2, d3] }
  | _ => none }
def StyleParamsWrongFalsely : Prop := styleParamsRow.holds Tryd.pinned (OpenSpec.ofChange styleParamsWrong)

/-- 'frescolaw06.StyleApply': WHATEVER THE INPUT: true; the input reads as it did. -/
def styleApplySpec : ChangeSpec := { name := "styleApply", fn := fun _ => fun
  | [d1, d2] => { results := [.lit (.bool true)], args := [d1, d2] }
  | _ => none }
def styleApplyRow : OpenClaim := { program := "ythcdcbibbfdjmaadoor", sum := "bdd3f4bc60ba6163321f8ce8194b1480ce2cae7711c42c496b5741bad82c0177", func := "fresco/frescolaw06.StyleApply", spec := "styleApply", unfollowed := true, recurses := true, named := ["fresco/style.on", "fresco/style.off", "fresco/style.names", "strconv.ErrSyntax", "strconv.ErrRange", "internal/strconv.uint64pow10", "math/bits.deBruijn32tab", "math/bits.deBruijn64tab"], apart := false, laid := [("math/bits.deBruijn32tab", laid_math_bits_deBruijn32tab), ("math/bits.deBruijn64tab", laid_math_bits_deBruijn64tab), ("internal/strconv.uint64pow10", laid_internal_strconv_uint64pow10), ("strconv.ErrRange", laid_strconv_ErrRange), ("strconv.ErrSyntax", laid_strconv_ErrSyntax), ("fresco/style.names", laid_fresco_style_names), ("fresco/style.on", laid_fresco_style_on), ("fresco/style.off", laid_fresco_style_off)] }
def StyleApplySaid : Prop := styleApplyRow.holds Tryd.pinned (OpenSpec.ofChange styleApplySpec)

/-- ITS FALSE NEIGHBOUR: 'it returns false'. Refute it at one input. -/
def styleApplyWrong : ChangeSpec := { name := "styleApply", fn := fun _ => fun
  | [d1, d2] => { results := [.lit (.bool false)], args := [d1, d2] }
  | _ => none }
def StyleApplyWrongFalsely : Prop := styleApplyRow.holds Tryd.pinned (OpenSpec.ofChange styleApplyWrong)

/-- 'frescolaw06.StyleParse': WHATEVER THE INPUT: true; the input reads as it did. -/
def styleParseSpec : ChangeSpec := { name := "styleParse", fn := fun _ => fun
  | [d] => { results := [.lit (.bool true)], args := [d] }
  | _ => none }
def styleParseRow : OpenClaim := { program := "ythcdcbibbfdjmaadoor", sum := "bdd3f4bc60ba6163321f8ce8194b1480ce2cae7711c42c496b5741bad82c0177", func := "fresco/frescolaw06.StyleParse", spec := "styleParse", unfollowed := true, recurses := true, named := ["fresco/style.names", "strconv.ErrSyntax", "strconv.ErrRange", "internal/strconv.uint64pow10", "math/bits.deBruijn32tab", "math/bits.deBruijn64tab", "fresco/style.off", "fresco/style.on"], apart := false, laid := [("math/bits.deBruijn32tab", laid_math_bits_deBruijn32tab), ("math/bits.deBruijn64tab", laid_math_bits_deBruijn64tab), ("internal/strconv.uint64pow10", laid_internal_strconv_uint64pow10), ("strconv.ErrRange", laid_strconv_ErrRange), ("strconv.ErrSyntax", laid_strconv_ErrSyntax), ("fresco/style.names", laid_fresco_style_names), ("fresco/style.on", laid_fresco_style_on), ("fresco/style.off", laid_fresco_style_off)] }
def StyleParseSaid : Prop := styleParseRow.holds Tryd.pinned (OpenSpec.ofChange styleParseSpec)

/-- ITS FALSE NEIGHBOUR: 'it returns false'. Refute it at one input. -/
def styleParseWrong : ChangeSpec := { name := "styleParse", fn := fun _ => fun
  | [d] => { results := [.lit (.bool false)], args := [d] }
  | _ => none }
def StyleParseWrongFalsely : Prop := styleParseRow.holds Tryd.pinned (OpenSpec.ofChange styleParseWrong)

/-- 'frescolaw06.StyleTells': WHATEVER THE INPUT: true; the input reads as it did. -/
def styleTellsSpec : ChangeSpec := { name := "styleTells", fn := fun _ => fun
  | [d1, d2] => { results := [.lit (.bool true)], args := [d1, d2] }
  | _ => none }
def styleTellsRow : OpenClaim := { program := "ythcdcbibbfdjmaadoor", sum := "bdd3f4bc60ba6163321f8ce8194b1480ce2cae7711c42c496b5741bad82c0177", func := "fresco/frescolaw06.StyleTells", spec := "styleTells", unfollowed := true, recurses := true, named := ["fresco/style.off", "fresco/style.on", "fresco/style.names", "strconv.ErrSyntax", "strconv.ErrRange", "internal/strconv.uint64pow10", "math/bits.deBruijn32tab", "math/bits.deBruijn64tab"], apart := false, laid := [("math/bits.deBruijn32tab", laid_math_bits_deBruijn32tab), ("math/bits.deBruijn64tab", laid_math_bits_deBruijn64tab), ("internal/strconv.uint64pow10", laid_internal_strconv_uint64pow10), ("strconv.ErrRange", laid_strconv_ErrRange), ("strconv.ErrSyntax", laid_strconv_ErrSyntax), ("fresco/style.names", laid_fresco_style_names), ("fresco/style.on", laid_fresco_style_on), ("fresco/style.off", laid_fresco_style_off)] }
def StyleTellsSaid : Prop := styleTellsRow.holds Tryd.pinned (OpenSpec.ofChange styleTellsSpec)

/-- ITS FALSE NEIGHBOUR: 'it returns false'. Refute it at one input. -/
def styleTellsWrong : ChangeSpec := { name := "styleTells", fn := fun _ => fun
  | [d1, d2] => { results := [.lit (.bool false)], args := [d1, d2] }
  | _ => none }
def StyleTellsWrongFalsely : Prop := styleTellsRow.holds Tryd.pinned (OpenSpec.ofChange styleTellsWrong)

/-- 'frescolaw06.StyleOver': WHATEVER THE INPUT: true; the input reads as it did. -/
def styleOverSpec : ChangeSpec := { name := "styleOver", fn := fun _ => fun
  | [d1, d2] => { results := [.lit (.bool true)], args := [d1, d2] }
  | _ => none }
def styleOverRow : OpenClaim := { program := "ythcdcbibbfdjmaadoor", sum := "bdd3f4bc60ba6163321f8ce8194b1480ce2cae7711c42c496b5741bad82c0177", func := "fresco/frescolaw06.StyleOver", spec := "styleOver", unfollowed := true, recurses := true, named := ["fresco/style.names", "strconv.ErrSyntax", "strconv.ErrRange", "internal/strconv.uint64pow10", "math/bits.deBruijn32tab", "math/bits.deBruijn64tab", "fresco/style.off", "fresco/style.on"], apart := false, laid := [("math/bits.deBruijn32tab", laid_math_bits_deBruijn32tab), ("math/bits.deBruijn64tab", laid_math_bits_deBruijn64tab), ("internal/strconv.uint64pow10", laid_internal_strconv_uint64pow10), ("strconv.ErrRange", laid_strconv_ErrRange), ("strconv.ErrSyntax", laid_strconv_ErrSyntax), ("fresco/style.names", laid_fresco_style_names), ("fresco/style.on", laid_fresco_style_on), ("fresco/style.off", laid_fresco_style_off)] }
def StyleOverSaid : Prop := styleOverRow.holds Tryd.pinned (OpenSpec.ofChange styleOverSpec)

/-- ITS FALSE NEIGHBOUR: 'it returns false'. Refute it at one input. -/
def styleOverWrong : ChangeSpec := { name := "styleOver", fn := fun _ => fun
  | [d1, d2] => { results := [.lit (.bool false)], args := [d1, d2] }
  | _ => none }
def StyleOverWrongFalsely : Prop := styleOverRow.holds Tryd.pinned (OpenSpec.ofChange styleOverWrong)

/-- 'frescolaw06.StyleThen': WHATEVER THE INPUT: true; the input reads as it did. -/
def styleThenSpec : ChangeSpec := { name := "styleThen", fn := fun _ => fun
  | [d1, d2, d3, d4] => { results := [.lit (.bool true)], args := [d1, d2, d3, d4] }
  | _ => none }
def styleThenRow : OpenClaim := { program := "ythcdcbibbfdjmaadoor", sum := "bdd3f4bc60ba6163321f8ce8194b1480ce2cae7711c42c496b5741bad82c0177", func := "fresco/frescolaw06.StyleThen", spec := "styleThen", unfollowed := true, recurses := true, named := ["fresco/style.names", "strconv.ErrSyntax", "strconv.ErrRange", "internal/strconv.uint64pow10", "math/bits.deBruijn32tab", "math/bits.deBruijn64tab", "fresco/style.off", "fresco/style.on"], apart := false, laid := [("math/bits.deBruijn32tab", laid_math_bits_deBruijn32tab), ("math/bits.deBruijn64tab", laid_math_bits_deBruijn64tab), ("internal/strconv.uint64pow10", laid_internal_strconv_uint64pow10), ("strconv.ErrRange", laid_strconv_ErrRange), ("strconv.ErrSyntax", laid_strconv_ErrSyntax), ("fresco/style.names", laid_fresco_style_names), ("fresco/style.on", laid_fresco_style_on), ("fresco/style.off", laid_fresco_style_off)] }
def StyleThenSaid : Prop := styleThenRow.holds Tryd.pinned (OpenSpec.ofChange styleThenSpec)

/-- ITS FALSE NEIGHBOUR: 'it returns false'. Refute it at one input. -/
def styleThenWrong : ChangeSpec := { name := "styleThen", fn := fun _ => fun
  | [d1, d2, d3, d4] => { results := [.lit (.bool false)], args := [d1, d2, d3, d4] }
  | _ => none }
def StyleThenWrongFalsely : Prop := styleThenRow.holds Tryd.pinned (OpenSpec.ofChange styleThenWrong)

/-- 'frescolaw06.StyleReduce': WHATEVER THE INPUT: true; the input reads as it did. -/
def styleReduceSpec : ChangeSpec := { name := "styleReduce", fn := fun _ => fun
  | [d1, d2] => { results := [.lit (.bool true)], args := [d1, d2] }
  | _ => none }
def styleReduceRow : OpenClaim := { program := "ythcdcbibbfdjmaadoor", sum := "bdd3f4bc60ba6163321f8ce8194b1480ce2cae7711c42c496b5741bad82c0177", func := "fresco/frescolaw06.StyleReduce", spec := "styleReduce", unfollowed := true, recurses := true, named := ["fresco/style.names", "strconv.ErrSyntax", "strconv.ErrRange", "internal/strconv.uint64pow10", "math/bits.deBruijn32tab", "math/bits.deBruijn64tab", "fresco/style.off", "fresco/style.on"], apart := false, laid := [("math/bits.deBruijn32tab", laid_math_bits_deBruijn32tab), ("math/bits.deBruijn64tab", laid_math_bits_deBruijn64tab), ("internal/strconv.uint64pow10", laid_internal_strconv_uint64pow10), ("strconv.ErrRange", laid_strconv_ErrRange), ("strconv.ErrSyntax", laid_strconv_ErrSyntax), ("fresco/style.names", laid_fresco_style_names), ("fresco/style.on", laid_fresco_style_on), ("fresco/style.off", laid_fresco_style_off)] }
def StyleReduceSaid : Prop := styleReduceRow.holds Tryd.pinned (OpenSpec.ofChange styleReduceSpec)

/-- ITS FALSE NEIGHBOUR: 'it returns false'. Refute it at one input. -/
def styleReduceWrong : ChangeSpec := { name := "styleReduce", fn := fun _ => fun
  | [d1, d2] => { results := [.lit (.bool false)], args := [d1, d2] }
  | _ => none }
def StyleReduceWrongFalsely : Prop := styleReduceRow.holds Tryd.pinned (OpenSpec.ofChange styleReduceWrong)

/-- 'frescolaw06.StyleCounts': WHATEVER THE INPUT: true; the input reads as it did. -/
def styleCountsSpec : ChangeSpec := { name := "styleCounts", fn := fun _ => fun
  | [d] => { results := [.lit (.bool true)], args := [d] }
  | _ => none }
def styleCountsRow : OpenClaim := { program := "ythcdcbibbfdjmaadoor", sum := "bdd3f4bc60ba6163321f8ce8194b1480ce2cae7711c42c496b5741bad82c0177", func := "fresco/frescolaw06.StyleCounts", spec := "styleCounts", unfollowed := true, recurses := true, named := ["fresco/style.names", "strconv.ErrSyntax", "strconv.ErrRange", "internal/strconv.uint64pow10", "math/bits.deBruijn32tab", "math/bits.deBruijn64tab", "fresco/style.off", "fresco/style.on"], apart := false, laid := [("math/bits.deBruijn32tab", laid_math_bits_deBruijn32tab), ("math/bits.deBruijn64tab", laid_math_bits_deBruijn64tab), ("internal/strconv.uint64pow10", laid_internal_strconv_uint64pow10), ("strconv.ErrRange", laid_strconv_ErrRange), ("strconv.ErrSyntax", laid_strconv_ErrSyntax), ("fresco/style.names", laid_fresco_style_names), ("fresco/style.on", laid_fresco_style_on), ("fresco/style.off", laid_fresco_style_off)] }
def StyleCountsSaid : Prop := styleCountsRow.holds Tryd.pinned (OpenSpec.ofChange styleCountsSpec)

/-- ITS FALSE NEIGHBOUR: 'it returns false'. Refute it at one input. -/
def styleCountsWrong : ChangeSpec := { name := "styleCounts", fn := fun _ => fun
  | [d] => { results := [.lit (.bool false)], args := [d] }
  | _ => none }
def StyleCountsWrongFalsely : Prop := styleCountsRow.holds Tryd.pinned (OpenSpec.ofChange styleCountsWrong)

/-- 'frescolaw06.StyleRows': WHATEVER THE INPUT: true; the input reads as it did. -/
def styleRowsSpec : ChangeSpec := { name := "styleRows", fn := fun _ => fun
  | [d1, d2, d3, d4] => { results := [.lit (.bool true)], args := [d1, d2, d3, d4] }
  | _ => none }
def styleRowsRow : OpenClaim := { program := "ythcdcbibbfdjmaadoor", sum := "bdd3f4bc60ba6163321f8ce8194b1480ce2cae7711c42c496b5741bad82c0177", func := "fresco/frescolaw06.StyleRows", spec := "styleRows", unfollowed := true, recurses := true, named := ["fresco/style.names", "strconv.ErrSyntax", "strconv.ErrRange", "internal/strconv.uint64pow10", "math/bits.deBruijn32tab", "math/bits.deBruijn64tab", "fresco/style.off", "fresco/style.on"], apart := false, laid := [("math/bits.deBruijn32tab", laid_math_bits_deBruijn32tab), ("math/bits.deBruijn64tab", laid_math_bits_deBruijn64tab), ("internal/strconv.uint64pow10", laid_internal_strconv_uint64pow10), ("strconv.ErrRange", laid_strconv_ErrRange), ("strconv.ErrSyntax", laid_strconv_ErrSyntax), ("fresco/style.names", laid_fresco_style_names), ("fresco/style.on", laid_fresco_style_on), ("fresco/style.off", laid_fresco_style_off)] }
def StyleRowsSaid : Prop := styleRowsRow.holds Tryd.pinned (OpenSpec.ofChange styleRowsSpec)

/-- ITS FALSE NEIGHBOUR: 'it returns false'. Refute it at one input. -/
def styleRowsWrong : ChangeSpec := { name := "styleRows", fn := fun _ => fun
  | [d1, d2, d3, d4] => { results := [.lit (.bool false)], args := [d1, d2, d3, d4] }
  | _ => none }
def StyleRowsWrongFalsely : Prop := styleRowsRow.holds Tryd.pinned (OpenSpec.ofChange styleRowsWrong)

/-- 'frescolaw06.StyleText': WHATEVER THE INPUT: true; the input reads as it did. -/
def styleTextSpec : ChangeSpec := { name := "styleText", fn := fun _ => fun
  | [d] => { results := [.lit (.bool true)], args := [d] }
  | _ => none }
def styleTextRow : OpenClaim := { program := "ythcdcbibbfdjmaadoor", sum := "bdd3f4bc60ba6163321f8ce8194b1480ce2cae7711c42c496b5741bad82c0177", func := "fresco/frescolaw06.StyleText", spec := "styleText", inPlace := ["internal/abi.NoEscape", "internal/bytealg.MakeNoZero"], unfollowed := true, recurses := true, named := ["fresco/style.names", "internal/strconv.uint64pow10", "math/bits.deBruijn32tab", "math/bits.deBruijn64tab", "strconv.ErrSyntax", "strconv.ErrRange", "fresco/style.off", "fresco/style.on"], apart := false, laid := [("math/bits.deBruijn32tab", laid_math_bits_deBruijn32tab), ("math/bits.deBruijn64tab", laid_math_bits_deBruijn64tab), ("internal/strconv.uint64pow10", laid_internal_strconv_uint64pow10), ("strconv.ErrRange", laid_strconv_ErrRange), ("strconv.ErrSyntax", laid_strconv_ErrSyntax), ("fresco/style.names", laid_fresco_style_names), ("fresco/style.on", laid_fresco_style_on), ("fresco/style.off", laid_fresco_style_off)] }
def StyleTextSaid : Prop := styleTextRow.holds Tryd.pinned (OpenSpec.ofChange styleTextSpec)

/-- ITS FALSE NEIGHBOUR: 'it returns false'. Refute it at one input. -/
def styleTextWrong : ChangeSpec := { name := "styleText", fn := fun _ => fun
  | [d] => { results := [.lit (.bool false)], args := [d] }
  | _ => none }
def StyleTextWrongFalsely : Prop := styleTextRow.holds Tryd.pinned (OpenSpec.ofChange styleTextWrong)

/-- 'frescolaw06.StyleBack': WHATEVER THE INPUT: true; the input reads as it did. -/
def styleBackSpec : ChangeSpec := { name := "styleBack", fn := fun _ => fun
  | [d1, d2] => { results := [.lit (.bool true)], args := [d1, d2] }
  | _ => none }
def styleBackRow : OpenClaim := { program := "ythcdcbibbfdjmaadoor", sum := "bdd3f4bc60ba6163321f8ce8194b1480ce2cae7711c42c496b5741bad82c0177", func := "fresco/frescolaw06.StyleBack", spec := "styleBack", inPlace := ["internal/abi.NoEscape", "internal/bytealg.MakeNoZero"], unfollowed := true, recurses := true, named := ["fresco/style.names", "internal/strconv.uint64pow10", "math/bits.deBruijn32tab", "math/bits.deBruijn64tab", "strconv.ErrSyntax", "strconv.ErrRange", "fresco/style.off", "fresco/style.on"], apart := false, laid := [("math/bits.deBruijn32tab", laid_math_bits_deBruijn32tab), ("math/bits.deBruijn64tab", laid_math_bits_deBruijn64tab), ("internal/strconv.uint64pow10", laid_internal_strconv_uint64pow10), ("strconv.ErrRange", laid_strconv_ErrRange), ("strconv.ErrSyntax", laid_strconv_ErrSyntax), ("fresco/style.names", laid_fresco_style_names), ("fresco/style.on", laid_fresco_style_on), ("fresco/style.off", laid_fresco_style_off)] }
def StyleBackSaid : Prop := styleBackRow.holds Tryd.pinned (OpenSpec.ofChange styleBackSpec)

/-- ITS FALSE NEIGHBOUR: 'it returns false'. Refute it at one input. -/
def styleBackWrong : ChangeSpec := { name := "styleBack", fn := fun _ => fun
  | [d1, d2] => { results := [.lit (.bool false)], args := [d1, d2] }
  | _ => none }
def StyleBackWrongFalsely : Prop := styleBackRow.holds Tryd.pinned (OpenSpec.ofChange styleBackWrong)

/-- 'frescolaw06.StyleKnown': WHATEVER THE INPUT: true; the input reads as it did. -/
def styleKnownSpec : ChangeSpec := { name := "styleKnown", fn := fun _ => fun
  | [] => { results := [.lit (.bool true)], args := [] }
  | _ => none }
def styleKnownRow : OpenClaim := { program := "ythcdcbibbfdjmaadoor", sum := "bdd3f4bc60ba6163321f8ce8194b1480ce2cae7711c42c496b5741bad82c0177", func := "fresco/frescolaw06.StyleKnown", spec := "styleKnown", inPlace := ["internal/abi.NoEscape", "internal/bytealg.MakeNoZero"], unfollowed := true, recurses := true, named := ["fresco/style.off", "fresco/style.on", "fresco/style.names", "strconv.ErrSyntax", "strconv.ErrRange", "internal/strconv.uint64pow10", "math/bits.deBruijn32tab", "math/bits.deBruijn64tab"], apart := false, laid := [("math/bits.deBruijn32tab", laid_math_bits_deBruijn32tab), ("math/bits.deBruijn64tab", laid_math_bits_deBruijn64tab), ("internal/strconv.uint64pow10", laid_internal_strconv_uint64pow10), ("strconv.ErrRange", laid_strconv_ErrRange), ("strconv.ErrSyntax", laid_strconv_ErrSyntax), ("fresco/style.names", laid_fresco_style_names), ("fresco/style.on", laid_fresco_style_on), ("fresco/style.off", laid_fresco_style_off)] }
def StyleKnownSaid : Prop := styleKnownRow.holds Tryd.pinned (OpenSpec.ofChange styleKnownSpec)

/-- ITS FALSE NEIGHBOUR: 'it returns false'. Refute it at one input. -/
def styleKnownWrong : ChangeSpec := { name := "styleKnown", fn := fun _ => fun
  | [] => { results := [.lit (.bool false)], args := [] }
  | _ => none }
def StyleKnownWrongFalsely : Prop := styleKnownRow.holds Tryd.pinned (OpenSpec.ofChange styleKnownWrong)

/- THE SECOND FORM. 'bulk': how many values and letters a reading holds, each counted each time it is reached (what is shared counts as often as it is met; a slice's spare places count too). A statement '..UptoSaid' is the law's where the arguments, and the package variables that the reading takes, are together of bulk at most 1048576: NARROWER than '..Said'. Prove '..Said' where nothing that the law and all that it calls make is longer than what came in: it says more and counts as full. Else prove '..UptoSaid'. A law counts once. -/
mutual
def uptoBulk {H : Type} : DataW H → Nat
  | .lit (.string bytes) => bytes.length + 1
  | .lit _ => 1
  | .nil => 1
  | .ptr d => uptoBulk d + 1
  | .slice elems spare => uptoBulkAll elems + uptoBulkAll spare + 1
  | .agg parts => uptoBulkAll parts + 1
  | .iface _ d => uptoBulk d + 1
  | .map entries => uptoBulkEntries entries + 1
  | .held _ => 1
def uptoBulkAll {H : Type} : List (DataW H) → Nat
  | [] => 0
  | d :: r => uptoBulk d + uptoBulkAll r
def uptoBulkEntries {H : Type} : List (Lit × DataW H) → Nat
  | [] => 0
  | x :: r => uptoBulkEntry x + uptoBulkEntries r
def uptoBulkEntry {H : Type} : Lit × DataW H → Nat
  | (.string bytes, d) => bytes.length + uptoBulk d + 1
  | (_, d) => uptoBulk d + 1
 end
def uptoSmall : (H : Type) → List (DataW H) → Bool := fun _ ds => decide (uptoBulkAll ds ≤ 1048576)
def OpenSpec.upto (s : _root_.Go.ChangeSpec) : _root_.Go.OpenSpec := { _root_.Go.OpenSpec.ofChange s with cond := some uptoSmall }

/-- 'frescolaw06.StyleParams', WHERE WHAT IT READS IS OF BULK AT MOST 1048576: true; the input reads as it did. -/
def styleParamsUptoRow : OpenClaim := { program := "ythcdcbibbfdjmaadoor", sum := "bdd3f4bc60ba6163321f8ce8194b1480ce2cae7711c42c496b5741bad82c0177", func := "fresco/frescolaw06.StyleParams", spec := "styleParams", unfollowed := true, recurses := true, named := ["fresco/style.off", "fresco/style.on", "fresco/style.names", "strconv.ErrSyntax", "strconv.ErrRange", "internal/strconv.uint64pow10", "math/bits.deBruijn32tab", "math/bits.deBruijn64tab"], apart := false, laid := [("math/bits.deBruijn32tab", laid_math_bits_deBruijn32tab), ("math/bits.deBruijn64tab", laid_math_bits_deBruijn64tab), ("internal/strconv.uint64pow10", laid_internal_strconv_uint64pow10), ("strconv.ErrRange", laid_strconv_ErrRange), ("strconv.ErrSyntax", laid_strconv_ErrSyntax), ("fresco/style.names", laid_fresco_style_names), ("fresco/style.on", laid_fresco_style_on), ("fresco/style.off", laid_fresco_style_off)], narrowed := true }
def StyleParamsUptoSaid : Prop := styleParamsUptoRow.holds Tryd.pinned (OpenSpec.upto styleParamsSpec)

/-- 'frescolaw06.StyleApply', WHERE WHAT IT READS IS OF BULK AT MOST 1048576: true; the input reads as it did. -/
def styleApplyUptoRow : OpenClaim := { program := "ythcdcbibbfdjmaadoor", sum := "bdd3f4bc60ba6163321f8ce8194b1480ce2cae7711c42c496b5741bad82c0177", func := "fresco/frescolaw06.StyleApply", spec := "styleApply", unfollowed := true, recurses := true, named := ["fresco/style.on", "fresco/style.off", "fresco/style.names", "strconv.ErrSyntax", "strconv.ErrRange", "internal/strconv.uint64pow10", "math/bits.deBruijn32tab", "math/bits.deBruijn64tab"], apart := false, laid := [("math/bits.deBruijn32tab", laid_math_bits_deBruijn32tab), ("math/bits.deBruijn64tab", laid_math_bits_deBruijn64tab), ("internal/strconv.uint64pow10", laid_internal_strconv_uint64pow10), ("strconv.ErrRange", laid_strconv_ErrRange), ("strconv.ErrSyntax", laid_strconv_ErrSyntax), ("fresco/style.names", laid_fresco_style_names), ("fresco/style.on", laid_fresco_style_on), ("fresco/style.off", laid_fresco_style_off)], narrowed := true }
def StyleApplyUptoSaid : Prop := styleApplyUptoRow.holds Tryd.pinned (OpenSpec.upto styleApplySpec)

/-- 'frescolaw06.StyleParse', WHERE WHAT IT READS IS OF BULK AT MOST 1048576: true; the input reads as it did. -/
def styleParseUptoRow : OpenClaim := { program := "ythcdcbibbfdjmaadoor", sum := "bdd3f4bc60ba6163321f8ce8194b1480ce2cae7711c42c496b5741bad82c0177", func := "fresco/frescolaw06.StyleParse", spec := "styleParse", unfollowed := true, recurses := true, named := ["fresco/style.names", "strconv.ErrSyntax", "strconv.ErrRange", "internal/strconv.uint64pow10", "math/bits.deBruijn32tab", "math/bits.deBruijn64tab", "fresco/style.off", "fresco/style.on"], apart := false, laid := [("math/bits.deBruijn32tab", laid_math_bits_deBruijn32tab), ("math/bits.deBruijn64tab", laid_math_bits_deBruijn64tab), ("internal/strconv.uint64pow10", laid_internal_strconv_uint64pow10), ("strconv.ErrRange", laid_strconv_ErrRange), ("strconv.ErrSyntax", laid_strconv_ErrSyntax), ("fresco/style.names", laid_fresco_style_names), ("fresco/style.on", laid_fresco_style_on), ("fresco/style.off", laid_fresco_style_off)], narrowed := true }
def StyleParseUptoSaid : Prop := styleParseUptoRow.holds Tryd.pinned (OpenSpec.upto styleParseSpec)

/-- 'frescolaw06.StyleTells', WHERE WHAT IT READS IS OF BULK AT MOST 1048576: true; the input reads as it did. -/
def styleTellsUptoRow : OpenClaim := { program := "ythcdcbibbfdjmaadoor", sum := "bdd3f4bc60ba6163321f8ce8194b1480ce2cae7711c42c496b5741bad82c0177", func := "fresco/frescolaw06.StyleTells", spec := "styleTells", unfollowed := true, recurses := true, named := ["fresco/style.off", "fresco/style.on", "fresco/style.names", "strconv.ErrSyntax", "strconv.ErrRange", "internal/strconv.uint64pow10", "math/bits.deBruijn32tab", "math/bits.deBruijn64tab"], apart := false, laid := [("math/bits.deBruijn32tab", laid_math_bits_deBruijn32tab), ("math/bits.deBruijn64tab", laid_math_bits_deBruijn64tab), ("internal/strconv.uint64pow10", laid_internal_strconv_uint64pow10), ("strconv.ErrRange", laid_strconv_ErrRange), ("strconv.ErrSyntax", laid_strconv_ErrSyntax), ("fresco/style.names", laid_fresco_style_names), ("fresco/style.on", laid_fresco_style_on), ("fresco/style.off", laid_fresco_style_off)], narrowed := true }
def StyleTellsUptoSaid : Prop := styleTellsUptoRow.holds Tryd.pinned (OpenSpec.upto styleTellsSpec)

/-- 'frescolaw06.StyleOver', WHERE WHAT IT READS IS OF BULK AT MOST 1048576: true; the input reads as it did. -/
def styleOverUptoRow : OpenClaim := { program := "ythcdcbibbfdjmaadoor", sum := "bdd3f4bc60ba6163321f8ce8194b1480ce2cae7711c42c496b5741bad82c0177", func := "fresco/frescolaw06.StyleOver", spec := "styleOver", unfollowed := true, recurses := true, named := ["fresco/style.names", "strconv.ErrSyntax", "strconv.ErrRange", "internal/strconv.uint64pow10", "math/bits.deBruijn32tab", "math/bits.deBruijn64tab", "fresco/style.off", "fresco/style.on"], apart := false, laid := [("math/bits.deBruijn32tab", laid_math_bits_deBruijn32tab), ("math/bits.deBruijn64tab", laid_math_bits_deBruijn64tab), ("internal/strconv.uint64pow10", laid_internal_strconv_uint64pow10), ("strconv.ErrRange", laid_strconv_ErrRange), ("strconv.ErrSyntax", laid_strconv_ErrSyntax), ("fresco/style.names", laid_fresco_style_names), ("fresco/style.on", laid_fresco_style_on), ("fresco/style.off", laid_fresco_style_off)], narrowed := true }
def StyleOverUptoSaid : Prop := styleOverUptoRow.holds Tryd.pinned (OpenSpec.upto styleOverSpec)

/-- 'frescolaw06.StyleThen', WHERE WHAT IT READS IS OF BULK AT MOST 1048576: true; the input reads as it did. -/
def styleThenUptoRow : OpenClaim := { program := "ythcdcbibbfdjmaadoor", sum := "bdd3f4bc60ba6163321f8ce8194b1480ce2cae7711c42c496b5741bad82c0177", func := "fresco/frescolaw06.StyleThen", spec := "styleThen", unfollowed := true, recurses := true, named := ["fresco/style.names", "strconv.ErrSyntax", "strconv.ErrRange", "internal/strconv.uint64pow10", "math/bits.deBruijn32tab", "math/bits.deBruijn64tab", "fresco/style.off", "fresco/style.on"], apart := false, laid := [("math/bits.deBruijn32tab", laid_math_bits_deBruijn32tab), ("math/bits.deBruijn64tab", laid_math_bits_deBruijn64tab), ("internal/strconv.uint64pow10", laid_internal_strconv_uint64pow10), ("strconv.ErrRange", laid_strconv_ErrRange), ("strconv.ErrSyntax", laid_strconv_ErrSyntax), ("fresco/style.names", laid_fresco_style_names), ("fresco/style.on", laid_fresco_style_on), ("fresco/style.off", laid_fresco_style_off)], narrowed := true }
def StyleThenUptoSaid : Prop := styleThenUptoRow.holds Tryd.pinned (OpenSpec.upto styleThenSpec)

/-- 'frescolaw06.StyleReduce', WHERE WHAT IT READS IS OF BULK AT MOST 1048576: true; the input reads as it did. -/
def styleReduceUptoRow : OpenClaim := { program := "ythcdcbibbfdjmaadoor", sum := "bdd3f4bc60ba6163321f8ce8194b1480ce2cae7711c42c496b5741bad82c0177", func := "fresco/frescolaw06.StyleReduce", spec := "styleReduce", unfollowed := true, recurses := true, named := ["fresco/style.names", "strconv.ErrSyntax", "strconv.ErrRange", "internal/strconv.uint64pow10", "math/bits.deBruijn32tab", "math/bits.deBruijn64tab", "fresco/style.off", "fresco/style.on"], apart := false, laid := [("math/bits.deBruijn32tab", laid_math_bits_deBruijn32tab), ("math/bits.deBruijn64tab", laid_math_bits_deBruijn64tab), ("internal/strconv.uint64pow10", laid_internal_strconv_uint64pow10), ("strconv.ErrRange", laid_strconv_ErrRange), ("strconv.ErrSyntax", laid_strconv_ErrSyntax), ("fresco/style.names", laid_fresco_style_names), ("fresco/style.on", laid_fresco_style_on), ("fresco/style.off", laid_fresco_style_off)], narrowed := true }
def StyleReduceUptoSaid : Prop := styleReduceUptoRow.holds Tryd.pinned (OpenSpec.upto styleReduceSpec)

/-- 'frescolaw06.StyleCounts', WHERE WHAT IT READS IS OF BULK AT MOST 1048576: true; the input reads as it did. -/
def styleCountsUptoRow : OpenClaim := { program := "ythcdcbibbfdjmaadoor", sum := "bdd3f4bc60ba6163321f8ce8194b1480ce2cae7711c42c496b5741bad82c0177", func := "fresco/frescolaw06.StyleCounts", spec := "styleCounts", unfollowed := true, recurses := true, named := ["fresco/style.names", "strconv.ErrSyntax", "strconv.ErrRange", "internal/strconv.uint64pow10", "math/bits.deBruijn32tab", "math/bits.deBruijn64tab", "fresco/style.off", "fresco/style.on"], apart := false, laid := [("math/bits.deBruijn32tab", laid_math_bits_deBruijn32tab), ("math/bits.deBruijn64tab", laid_math_bits_deBruijn64tab), ("internal/strconv.uint64pow10", laid_internal_strconv_uint64pow10), ("strconv.ErrRange", laid_strconv_ErrRange), ("strconv.ErrSyntax", laid_strconv_ErrSyntax), ("fresco/style.names", laid_fresco_style_names), ("fresco/style.on", laid_fresco_style_on), ("fresco/style.off", laid_fresco_style_off)], narrowed := true }
def StyleCountsUptoSaid : Prop := styleCountsUptoRow.holds Tryd.pinned (OpenSpec.upto styleCountsSpec)

/-- 'frescolaw06.StyleRows', WHERE WHAT IT READS IS OF BULK AT MOST 1048576: true; the input reads as it did. -/
def styleRowsUptoRow : OpenClaim := { program := "ythcdcbibbfdjmaadoor", sum := "bdd3f4bc60ba6163321f8ce8194b1480ce2cae7711c42c496b5741bad82c0177", func := "fresco/frescolaw06.StyleRows", spec := "styleRows", unfollowed := true, recurses := true, named := ["fresco/style.names", "strconv.ErrSyntax", "strconv.ErrRange", "internal/strconv.uint64pow10", "math/bits.deBruijn32tab", "math/bits.deBruijn64tab", "fresco/style.off", "fresco/style.on"], apart := false, laid := [("math/bits.deBruijn32tab", laid_math_bits_deBruijn32tab), ("math/bits.deBruijn64tab", laid_math_bits_deBruijn64tab), ("internal/strconv.uint64pow10", laid_internal_strconv_uint64pow10), ("strconv.ErrRange", laid_strconv_ErrRange), ("strconv.ErrSyntax", laid_strconv_ErrSyntax), ("fresco/style.names", laid_fresco_style_names), ("fresco/style.on", laid_fresco_style_on), ("fresco/style.off", laid_fresco_style_off)], narrowed := true }
def StyleRowsUptoSaid : Prop := styleRowsUptoRow.holds Tryd.pinned (OpenSpec.upto styleRowsSpec)

/-- 'frescolaw06.StyleText', WHERE WHAT IT READS IS OF BULK AT MOST 1048576: true; the input reads as it did. -/
def styleTextUptoRow : OpenClaim := { program := "ythcdcbibbfdjmaadoor", sum := "bdd3f4bc60ba6163321f8ce8194b1480ce2cae7711c42c496b5741bad82c0177", func := "fresco/frescolaw06.StyleText", spec := "styleText", inPlace := ["internal/abi.NoEscape", "internal/bytealg.MakeNoZero"], unfollowed := true, recurses := true, named := ["fresco/style.names", "internal/strconv.uint64pow10", "math/bits.deBruijn32tab", "math/bits.deBruijn64tab", "strconv.ErrSyntax", "strconv.ErrRange", "fresco/style.off", "fresco/style.on"], apart := false, laid := [("math/bits.deBruijn32tab", laid_math_bits_deBruijn32tab), ("math/bits.deBruijn64tab", laid_math_bits_deBruijn64tab), ("internal/strconv.uint64pow10", laid_internal_strconv_uint64pow10), ("strconv.ErrRange", laid_strconv_ErrRange), ("strconv.ErrSyntax", laid_strconv_ErrSyntax), ("fresco/style.names", laid_fresco_style_names), ("fresco/style.on", laid_fresco_style_on), ("fresco/style.off", laid_fresco_style_off)], narrowed := true }
def StyleTextUptoSaid : Prop := styleTextUptoRow.holds Tryd.pinned (OpenSpec.upto styleTextSpec)

/-- 'frescolaw06.StyleBack', WHERE WHAT IT READS IS OF BULK AT MOST 1048576: true; the input reads as it did. -/
def styleBackUptoRow : OpenClaim := { program := "ythcdcbibbfdjmaadoor", sum := "bdd3f4bc60ba6163321f8ce8194b1480ce2cae7711c42c496b5741bad82c0177", func := "fresco/frescolaw06.StyleBack", spec := "styleBack", inPlace := ["internal/abi.NoEscape", "internal/bytealg.MakeNoZero"], unfollowed := true, recurses := true, named := ["fresco/style.names", "internal/strconv.uint64pow10", "math/bits.deBruijn32tab", "math/bits.deBruijn64tab", "strconv.ErrSyntax", "strconv.ErrRange", "fresco/style.off", "fresco/style.on"], apart := false, laid := [("math/bits.deBruijn32tab", laid_math_bits_deBruijn32tab), ("math/bits.deBruijn64tab", laid_math_bits_deBruijn64tab), ("internal/strconv.uint64pow10", laid_internal_strconv_uint64pow10), ("strconv.ErrRange", laid_strconv_ErrRange), ("strconv.ErrSyntax", laid_strconv_ErrSyntax), ("fresco/style.names", laid_fresco_style_names), ("fresco/style.on", laid_fresco_style_on), ("fresco/style.off", laid_fresco_style_off)], narrowed := true }
def StyleBackUptoSaid : Prop := styleBackUptoRow.holds Tryd.pinned (OpenSpec.upto styleBackSpec)

/-- 'frescolaw06.StyleKnown', WHERE WHAT IT READS IS OF BULK AT MOST 1048576: true; the input reads as it did. -/
def styleKnownUptoRow : OpenClaim := { program := "ythcdcbibbfdjmaadoor", sum := "bdd3f4bc60ba6163321f8ce8194b1480ce2cae7711c42c496b5741bad82c0177", func := "fresco/frescolaw06.StyleKnown", spec := "styleKnown", inPlace := ["internal/abi.NoEscape", "internal/bytealg.MakeNoZero"], unfollowed := true, recurses := true, named := ["fresco/style.off", "fresco/style.on", "fresco/style.names", "strconv.ErrSyntax", "strconv.ErrRange", "internal/strconv.uint64pow10", "math/bits.deBruijn32tab", "math/bits.deBruijn64tab"], apart := false, laid := [("math/bits.deBruijn32tab", laid_math_bits_deBruijn32tab), ("math/bits.deBruijn64tab", laid_math_bits_deBruijn64tab), ("internal/strconv.uint64pow10", laid_internal_strconv_uint64pow10), ("strconv.ErrRange", laid_strconv_ErrRange), ("strconv.ErrSyntax", laid_strconv_ErrSyntax), ("fresco/style.names", laid_fresco_style_names), ("fresco/style.on", laid_fresco_style_on), ("fresco/style.off", laid_fresco_style_off)], narrowed := true }
def StyleKnownUptoSaid : Prop := styleKnownUptoRow.holds Tryd.pinned (OpenSpec.upto styleKnownSpec)

end Rows
end Go.Proofs.YthcdcbibbfdjmaaDoor
