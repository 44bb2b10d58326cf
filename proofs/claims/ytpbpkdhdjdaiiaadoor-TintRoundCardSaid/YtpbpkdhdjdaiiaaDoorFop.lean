/- How the walk meets the operations on floats: each as a total function on words, where the operands are finite. -/
import Derived.Test.YtpbpkdhdjdaiiaaDoorBase
import Derived.Test.YtpbpkdhdjdaiiaaDoorFlt
namespace Go.Proofs.YtpbpkdhdjdaiiaaDoor
open Go.RowKit Flt

def fadd (x y : Nat) : Nat := (Ieee.double.add x y).getD 0
def fsub (x y : Nat) : Nat := (Ieee.double.sub x y).getD 0
def fmul (x y : Nat) : Nat := (Ieee.double.mul x y).getD 0
def fdiv (x y : Nat) : Nat := (Ieee.double.div x y).getD 0
def ffloor (x : Nat) : Nat := Ieee.double.write ((Ieee.double.read x).integral .down)

theorem fadd_some {x y : Nat} (hx : Fnt x) (hy : Fnt y) : Ieee.double.add x y = some (fadd x y) ∧ Rd (val x + val y) (fadd x y) := by
  obtain ⟨r, h, g⟩ := add_rd hx hy
  unfold fadd; rw [h]; exact ⟨rfl, g⟩
theorem fsub_some {x y : Nat} (hx : Fnt x) (hy : Fnt y) : Ieee.double.sub x y = some (fsub x y) ∧ Rd (val x - val y) (fsub x y) := by
  obtain ⟨r, h, g⟩ := sub_rd hx hy
  unfold fsub; rw [h]; exact ⟨rfl, g⟩
theorem fmul_some {x y : Nat} (hx : Fnt x) (hy : Fnt y) : Ieee.double.mul x y = some (fmul x y) ∧ Rd (val x * val y) (fmul x y) := by
  obtain ⟨r, h, g⟩ := mul_rd hx hy
  unfold fmul; rw [h]; exact ⟨rfl, g⟩
theorem fdiv_some {x y : Nat} (hx : Fnt x) (hy : Fnt y) (h0 : val y ≠ 0) : Ieee.double.div x y = some (fdiv x y) ∧ Rd (val x / val y) (fdiv x y) := by
  obtain ⟨r, h, g⟩ := div_rd hx hy h0
  unfold fdiv; rw [h]; exact ⟨rfl, g⟩

@[go_sem] theorem go_fadd (t : TypeId) (x y : Nat) (hx : Fnt x) (hy : Fnt y) : binOp .add t (.float .f64 x) (.float .f64 y) = pure (.float .f64 (fadd x y)) := by
  have h : FloatKind.f64.format.add x y = some (fadd x y) := (fadd_some hx hy).1
  simp [binOp, Op.floatArith, h]
@[go_sem] theorem go_fsub (t : TypeId) (x y : Nat) (hx : Fnt x) (hy : Fnt y) : binOp .sub t (.float .f64 x) (.float .f64 y) = pure (.float .f64 (fsub x y)) := by
  have h : FloatKind.f64.format.sub x y = some (fsub x y) := (fsub_some hx hy).1
  simp [binOp, Op.floatArith, h]
@[go_sem] theorem go_fmul (t : TypeId) (x y : Nat) (hx : Fnt x) (hy : Fnt y) : binOp .mul t (.float .f64 x) (.float .f64 y) = pure (.float .f64 (fmul x y)) := by
  have h : FloatKind.f64.format.mul x y = some (fmul x y) := (fmul_some hx hy).1
  simp [binOp, Op.floatArith, h]
@[go_sem] theorem go_fdiv (t : TypeId) (x y : Nat) (hx : Fnt x) (hy : Fnt y) (h0 : val y ≠ 0) : binOp .quo t (.float .f64 x) (.float .f64 y) = pure (.float .f64 (fdiv x y)) := by
  have h : FloatKind.f64.format.div x y = some (fdiv x y) := (fdiv_some hx hy h0).1
  simp [binOp, Op.floatArith, h]

@[go_sem] theorem run_store_float {P : Program} {w : World} {a : Addr} {m : Mode} (k : FloatKind) (n : Nat) : (store a (.float k n) m).run P w = stored P w a (.float k n) m := run_store P w a _ m rfl

/-! ### min and max -/
def fminW (x y : Nat) : Nat := match Ieee.double.order x y with | some .lt => x | some .gt => y | _ => if (Ieee.double.read x).neg = true then x else y
def fmaxW (x y : Nat) : Nat := match Ieee.double.order x y with | some .lt => y | some .gt => x | _ => if (Ieee.double.read x).neg = true then y else x

theorem min2_some (x y : Nat) (h : (Ieee.double.order x y).isSome = true) : Builtin.min2 (.float .f64 x) (.float .f64 y) = pure (.float .f64 (fminW x y)) := by
  obtain ⟨c, hc⟩ := Option.isSome_iff_exists.1 h
  have e : ∀ c, Ieee.double.order x y = some c → Builtin.min2 (.float .f64 x) (.float .f64 y) = pure (.float .f64 (fminW x y)) := by
    intro c hc
    have h' : FloatKind.f64.format.order x y = some c := hc
    unfold fminW
    rw [hc]
    cases c
    · simp [Builtin.min2, h']
    · simp [Builtin.min2, h']; rfl
    · simp [Builtin.min2, h']
  exact e c hc
theorem max2_some (x y : Nat) (h : (Ieee.double.order x y).isSome = true) : Builtin.max2 (.float .f64 x) (.float .f64 y) = pure (.float .f64 (fmaxW x y)) := by
  obtain ⟨c, hc⟩ := Option.isSome_iff_exists.1 h
  have e : ∀ c, Ieee.double.order x y = some c → Builtin.max2 (.float .f64 x) (.float .f64 y) = pure (.float .f64 (fmaxW x y)) := by
    intro c hc
    have h' : FloatKind.f64.format.order x y = some c := hc
    unfold fmaxW
    rw [hc]
    cases c
    · simp [Builtin.max2, h']
    · simp [Builtin.max2, h']; rfl
    · simp [Builtin.max2, h']
  exact e c hc
@[go_sem] theorem go_min (ts : Array TypeId) (t : TypeId) (x y : Nat) (h : (Ieee.double.order x y).isSome = true) : Builtin.min_ ts t #[.float .f64 x, .float .f64 y] = pure (.float .f64 (fminW x y)) := by
  have e := min2_some x y h
  simp [Builtin.min_, e]
@[go_sem] theorem go_max (ts : Array TypeId) (t : TypeId) (x y : Nat) (h : (Ieee.double.order x y).isSome = true) : Builtin.max_ ts t #[.float .f64 x, .float .f64 y] = pure (.float .f64 (fmaxW x y)) := by
  have e := max2_some x y h
  simp [Builtin.max_, e]
theorem order_some {x y : Nat} (hx : Fnt x) (hy : Fnt y) : (Ieee.double.order x y).isSome = true := by
  obtain ⟨m, p, a, _⟩ := read_fin hx
  obtain ⟨n, q, b, _⟩ := read_fin hy
  unfold Ieee.Format.order
  rw [a, b]
  rfl
@[go_sem] theorem go_min3 (ts : Array TypeId) (t : TypeId) (x y z : Nat) (hx : Fnt x) (hy : Fnt y) (hz : Fnt z) : Builtin.min_ ts t #[.float .f64 x, .float .f64 y, .float .f64 z] = pure (.float .f64 (fminW (fminW x y) z)) := by
  have e := min2_some x y (order_some hx hy)
  have f : Fnt (fminW x y) := by unfold fminW; split <;> first | exact hx | exact hy | (split <;> assumption)
  have e2 := min2_some (fminW x y) z (order_some f hz)
  simp [Builtin.min_, e, e2]
@[go_sem] theorem go_max3 (ts : Array TypeId) (t : TypeId) (x y z : Nat) (hx : Fnt x) (hy : Fnt y) (hz : Fnt z) : Builtin.max_ ts t #[.float .f64 x, .float .f64 y, .float .f64 z] = pure (.float .f64 (fmaxW (fmaxW x y) z)) := by
  have e := max2_some x y (order_some hx hy)
  have f : Fnt (fmaxW x y) := by unfold fmaxW; split <;> first | exact hx | exact hy | (split <;> assumption)
  have e2 := max2_some (fmaxW x y) z (order_some f hz)
  simp [Builtin.max_, e, e2]
theorem fmin_val {x y : Nat} (hx : Fnt x) (hy : Fnt y) : Fnt (fminW x y) ∧ (fminW x y = x ∨ fminW x y = y) ∧ val (fminW x y) ≤ val x ∧ val (fminW x y) ≤ val y := by
  obtain ⟨a, b, c⟩ := order_eq hx hy
  unfold fminW
  split
  · rename_i h; have := a.1 h; exact ⟨hx, Or.inl rfl, by grind, by grind⟩
  · rename_i h; have := c.1 h; exact ⟨hy, Or.inr rfl, by grind, by grind⟩
  · rename_i h1 h2
    have e : val x = val y := by
      have s := order_some hx hy
      cases ho : Ieee.double.order x y with
      | none => rw [ho] at s; cases s
      | some c =>
        cases c
        · exact absurd ho h1
        · exact b.1 ho
        · exact absurd ho h2
    split
    · exact ⟨hx, Or.inl rfl, by grind, by grind⟩
    · exact ⟨hy, Or.inr rfl, by grind, by grind⟩
theorem fmax_val {x y : Nat} (hx : Fnt x) (hy : Fnt y) : Fnt (fmaxW x y) ∧ (fmaxW x y = x ∨ fmaxW x y = y) ∧ val x ≤ val (fmaxW x y) ∧ val y ≤ val (fmaxW x y) := by
  obtain ⟨a, b, c⟩ := order_eq hx hy
  unfold fmaxW
  split
  · rename_i h; have := a.1 h; exact ⟨hy, Or.inr rfl, by grind, by grind⟩
  · rename_i h; have := c.1 h; exact ⟨hx, Or.inl rfl, by grind, by grind⟩
  · rename_i h1 h2
    have e : val x = val y := by
      have s := order_some hx hy
      cases ho : Ieee.double.order x y with
      | none => rw [ho] at s; cases s
      | some c =>
        cases c
        · exact absurd ho h1
        · exact b.1 ho
        · exact absurd ho h2
    split
    · exact ⟨hy, Or.inr rfl, by grind, by grind⟩
    · exact ⟨hx, Or.inl rfl, by grind, by grind⟩

/-! ### the constants -/
theorem fin0 : Fnt 0 := by unfold Fnt; decide +kernel
theorem val0 : val 0 = 0 := by decide +kernel
theorem fin1 : Fnt 4607182418800017408 := by unfold Fnt; decide +kernel
theorem val1 : val 4607182418800017408 = 1 := by decide +kernel
theorem finH : Fnt 4602678819172646912 := by unfold Fnt; decide +kernel
theorem valH : val 4602678819172646912 = 1/2 := by decide +kernel
theorem fin255 : Fnt 4643176031446892544 := by unfold Fnt; decide +kernel
theorem val255 : val 4643176031446892544 = 255 := by decide +kernel
theorem ne255 : val 4643176031446892544 ≠ 0 := by rw [val255]; decide

theorem f255_int (n : Int) (h : -9007199254740992 < n) (h' : n < 9007199254740992) : Fnt (floatOfInt .f64 n) ∧ val (floatOfInt .f64 n) = (n : Rat) := (int_rd n).int h h'

theorem word_bound (x : Nat) (h : (Lit.float .f64 x).wf = true) : x < 18446744073709551616 := by
  simpa [Lit.wf] using h

/-! ### math.Floor -/
theorem archFloor_run (x : Nat) (hx : Fnt x) (w : World) : (callFunc 80 #[.float .f64 x]).run Tryd.prog w = .ok (.value (.float .f64 (ffloor x))) w := by
  rw [run_callFunc_extern (e := Extern.MathFloor.toIntegral "math.archFloor" .down) Tryd.func80 (by kernel_rfl) (by kernel_rfl) (by kernel_rfl) (by kernel_rfl)]
  obtain ⟨m, p, h, _⟩ := read_fin hx
  have e : (Extern.MathFloor.toIntegral "math.archFloor" .down #[.float .f64 x]) = pure (.float .f64 (ffloor x)) := by
    have h' : FloatKind.f64.decode x = .number (sgn x) m p := h
    change (match FloatKind.f64.decode x with | .nan s t => _ | d => (pure (Value.float .f64 (FloatKind.f64.encode (d.integral .down))) : Sem Value)) = _
    rw [h']
    unfold ffloor
    rw [h]
    rfl
  rw [e]
  simp [go_sem]

theorem math_Floor (x : Nat) (hx : Fnt x) : Tells 63 #[.float .f64 x] (.float .f64 (ffloor x)) := by
  intro w
  have h := archFloor_run x hx
  go_enter Tryd.func63, Tryd.ntmps63
  go_wp2
  go_ret
  exact ⟨rfl, rfl⟩

theorem ffloor_some {x : Nat} (h : Fnt x) : ∃ n : Int, (n:Rat) ≤ val x ∧ val x < (n:Rat) + 1 ∧ Rd (n:Rat) (ffloor x) := floor_rd h
end Go.Proofs.YtpbpkdhdjdaiiaaDoor
