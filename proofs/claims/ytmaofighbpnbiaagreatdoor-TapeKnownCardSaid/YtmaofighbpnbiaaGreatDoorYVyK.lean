/- What the rows' listed variables give the walks. -/
import Derived.Test.YtmaofighbpnbiaaGreatDoorTaCE
import Derived.Test.YtmaofighbpnbiaaGreatDoorRows
import Derived.ProofKit
import Derived.LaidMore
import Derived.OpenShut
import Derived.MakeChecks
import Derived.Lib.LaidTab
import Derived.Stop.LaidErr
import Derived.Stop.Joined
namespace Go.Proofs.YtmaofighbpnbiaaGreatDoor
open Go.RowKit Go.ChangeShapes
theorem gDb : Tryz.prog.globalNamed "math/bits.deBruijn64tab" = some 4 := by kernel_rfl
theorem gPow : Tryz.prog.globalNamed "internal/strconv.uint64pow10" = some 2 := by kernel_rfl
theorem gOn : Tryz.prog.globalNamed "fresco/style.on" = some 0 := by kernel_rfl
theorem gOff : Tryz.prog.globalNamed "fresco/style.off" = some 1 := by kernel_rfl
theorem cell_lt {w : World} {g : Nat} {v : Value} {o : Nat} (h : w.cell? ⟨g, o, none⟩ = some v) : g < w.heap.size := block_lt_of_cell h
def onZ : List Int := [1, 2, 3, 4, 5, 7, 8, 9]
def offZ : List Int := [22, 22, 23, 24, 25, 27, 28, 29]
theorem env_v {W : World} (h : laidMetH Tryz.prog [("math/bits.deBruijn32tab", Rows.laid_math_bits_deBruijn32tab), ("math/bits.deBruijn64tab", Rows.laid_math_bits_deBruijn64tab), ("internal/strconv.uint64pow10", Rows.laid_internal_strconv_uint64pow10), ("fresco/style.on", Rows.laid_fresco_style_on), ("fresco/style.off", Rows.laid_fresco_style_off)] W) : EnvV W := by
 have e : laidMetH Tryz.prog [("math/bits.deBruijn32tab", Rows.laid_math_bits_deBruijn32tab), ("math/bits.deBruijn64tab", Rows.laid_math_bits_deBruijn64tab), ("internal/strconv.uint64pow10", Rows.laid_internal_strconv_uint64pow10), ("fresco/style.on", Rows.laid_fresco_style_on), ("fresco/style.off", Rows.laid_fresco_style_off)] W = laidMet Tryz.prog [("math/bits.deBruijn32tab", Rows.laid_math_bits_deBruijn32tab), ("math/bits.deBruijn64tab", Rows.laid_math_bits_deBruijn64tab), ("internal/strconv.uint64pow10", Rows.laid_internal_strconv_uint64pow10), ("fresco/style.on", Rows.laid_fresco_style_on), ("fresco/style.off", Rows.laid_fresco_style_off)] W := MakeChecks.laidMetH_plain _ _ _ (by kernel_rfl)
 rw [e] at h
 have tp : Lib.TabIs Tryz.prog W "internal/strconv.uint64pow10" .u64 Lib.pow10Tab :=
  Lib.tabIs_of_head (t := 189) gPow (by kernel_rfl) Tryz.underlying189 Tryz.underlying180 (by kernel_rfl) (by kernel_rfl) h.tail.tail
 have ton : Lib.TabIs Tryz.prog W "fresco/style.on" .i64 onZ :=
  Lib.tabIs_of_head (t := 154) gOn (by kernel_rfl) Tryz.underlying154 Tryz.underlying3 (by kernel_rfl) (by kernel_rfl) h.tail.tail.tail
 have tf : Lib.TabIs Tryz.prog W "fresco/style.off" .i64 offZ :=
  Lib.tabIs_of_head (t := 154) gOff (by kernel_rfl) Tryz.underlying154 Tryz.underlying3 (by kernel_rfl) (by kernel_rfl) h.tail.tail.tail.tail
 exact ⟨⟨fun k hk => ton.cell gOn k hk, fun k hk => tf.cell gOff k hk⟩, tp, cell_lt (tp.cell gPow 0 (by decide))⟩
end Go.Proofs.YtmaofighbpnbiaaGreatDoor
