/- What the rows' listed variables give the walks, and a world for the witnesses. -/
import Derived.Test.YtpbpkdhdjdaiiaaDoorEnv
import Derived.Test.YtpbpkdhdjdaiiaaDoorRows
import Derived.ProofKit
import Derived.LaidMore
import Derived.OpenShut
import Derived.ShutString
import Derived.MakeChecks
import Derived.Lib.LaidTab
import Derived.Stop.LaidErr
import Derived.Stop.Joined
namespace Go.Proofs.YtpbpkdhdjdaiiaaDoor
open Go.RowKit Go.ChangeShapes

def db32 : List Int := [0, 1, 28, 2, 29, 14, 24, 3, 30, 22, 20, 15, 25, 17, 4, 8, 31, 27, 13, 23, 21, 19, 16, 7, 26, 12, 18, 6, 11, 5, 10, 9]
def db64 : List Int := [0, 1, 56, 2, 57, 49, 28, 3, 61, 58, 42, 50, 38, 29, 17, 4, 62, 47, 59, 36, 45, 43, 51, 22, 53, 39, 33, 30, 24, 18, 12, 5, 63, 55, 48, 27, 60, 41, 37, 16, 46, 35, 44, 21, 52, 32, 23, 11, 54, 26, 40, 15, 34, 20, 31, 10, 25, 14, 19, 9, 13, 8, 7, 6]
theorem gDb : Tryd.prog.globalNamed "math/bits.deBruijn64tab" = some 5 := by kernel_rfl
theorem gPow : Tryd.prog.globalNamed "internal/strconv.uint64pow10" = some 1 := by kernel_rfl
theorem gSyn : Tryd.prog.globalNamed "strconv.ErrSyntax" = some 2 := by kernel_rfl
theorem gRng : Tryd.prog.globalNamed "strconv.ErrRange" = some 3 := by kernel_rfl
theorem rowErr (u : TypeId) (h : Tryd.prog.typeName? 3 u = some "*errors.errorString") : u = 124 := by
  have star : "*" ++ "errors.errorString" = "*errors.errorString" := by decide
  exact typeName_ptr_named (nm := "errors.errorString") (by rw [star]; kernel_rfl) (by kernel_rfl) (by decide) u (by rw [star]; exact h)

theorem cell_lt {w : World} {g : Nat} {v : Value} {o : Nat} (h : w.cell? ⟨g, o, none⟩ = some v) : g < w.heap.size := block_lt_of_cell h

theorem env_tabs {W : World} {rest : List (String × DataW Unit)} (h : laidMet Tryd.prog (("math/bits.deBruijn32tab", Rows.laid_math_bits_deBruijn32tab) :: ("math/bits.deBruijn64tab", Rows.laid_math_bits_deBruijn64tab) :: ("internal/strconv.uint64pow10", Rows.laid_internal_strconv_uint64pow10) :: rest) W) : EnvT W := by
  have t64 : Lib.TabIs Tryd.prog W "math/bits.deBruijn64tab" .u8 db64 :=
    Lib.tabIs_of_head (t := 128) gDb (by kernel_rfl) Tryd.underlying128 Tryd.underlying5 (by kernel_rfl) (by kernel_rfl) h.tail
  have tp : Lib.TabIs Tryd.prog W "internal/strconv.uint64pow10" .u64 Lib.pow10Tab :=
    Lib.tabIs_of_head (t := 113) gPow (by kernel_rfl) Tryd.underlying113 Tryd.underlying68 (by kernel_rfl) (by kernel_rfl) h.tail.tail
  have c := t64.cell gDb 15 (by decide)
  exact ⟨tp, cell_lt c, c, cell_lt (tp.cell gPow 0 (by decide))⟩

theorem env_tabs3 {W : World} (h : laidMetH Tryd.prog [("math/bits.deBruijn32tab", Rows.laid_math_bits_deBruijn32tab), ("math/bits.deBruijn64tab", Rows.laid_math_bits_deBruijn64tab), ("internal/strconv.uint64pow10", Rows.laid_internal_strconv_uint64pow10)] W) : EnvT W := by
  have e : laidMetH Tryd.prog [("math/bits.deBruijn32tab", Rows.laid_math_bits_deBruijn32tab), ("math/bits.deBruijn64tab", Rows.laid_math_bits_deBruijn64tab), ("internal/strconv.uint64pow10", Rows.laid_internal_strconv_uint64pow10)] W = laidMet Tryd.prog [("math/bits.deBruijn32tab", Rows.laid_math_bits_deBruijn32tab), ("math/bits.deBruijn64tab", Rows.laid_math_bits_deBruijn64tab), ("internal/strconv.uint64pow10", Rows.laid_internal_strconv_uint64pow10)] W := MakeChecks.laidMetH_plain _ _ _ (by kernel_rfl)
  rw [e] at h
  exact env_tabs h

theorem env_all {W : World} (h : laidMetH Tryd.prog Rows.tintParsesRow.laid W) : Env W := by
  have e : laidMetH Tryd.prog Rows.tintParsesRow.laid W = laidMet Tryd.prog Rows.tintParsesRow.laid W := MakeChecks.laidMetH_plain _ _ _ (by kernel_rfl)
  rw [e] at h
  have h : laidMet Tryd.prog [("math/bits.deBruijn32tab", Rows.laid_math_bits_deBruijn32tab), ("math/bits.deBruijn64tab", Rows.laid_math_bits_deBruijn64tab), ("internal/strconv.uint64pow10", Rows.laid_internal_strconv_uint64pow10), ("strconv.ErrRange", Rows.laid_strconv_ErrRange), ("strconv.ErrSyntax", Rows.laid_strconv_ErrSyntax)] W := h
  have et := env_tabs h
  obtain ⟨a0, s0, hv0, _⟩ := laid_sentinel (ti := 75) h.tail.tail.tail gRng (by kernel_rfl) Tryd.underlying75 rowErr Tryd.underlying124 Tryd.underlying126 rfl rfl Tryd.underlying9 (by kernel_rfl) (by kernel_rfl)
  obtain ⟨a1, s1, hv1, _⟩ := laid_sentinel (ti := 75) h.tail.tail.tail.tail gSyn (by kernel_rfl) Tryd.underlying75 rowErr Tryd.underlying124 Tryd.underlying126 rfl rfl Tryd.underlying9 (by kernel_rfl) (by kernel_rfl)
  have c0 : W.cell? ⟨3, 0, none⟩ = some (.iface 124 (.pointer (some a0))) := by simpa using World.var?_cell gRng hv0 0
  have c1 : W.cell? ⟨2, 0, none⟩ = some (.iface 124 (.pointer (some a1))) := by simpa using World.var?_cell gSyn hv1 0
  exact { toEnvT := et, sg := cell_lt c1, rg := cell_lt c0, es := ⟨_, c1, Or.inr ⟨_, _, rfl⟩⟩, er := ⟨_, c0, Or.inr ⟨_, _, rfl⟩⟩ }
end Go.Proofs.YtpbpkdhdjdaiiaaDoor
