/- An array of three channels in memory; the outright laws' distance. -/
import Derived.Test.YtpbpkdhdjdaiiaaDoorWorks
namespace Go.Proofs.YtpbpkdhdjdaiiaaDoor
open Go.RowKit
set_option linter.unusedVariables false

structure A3 (w : World) (b : Nat) (x y z : Int) : Prop where
  c0 : w.cell? ⟨b, 0, none⟩ = some (.int .u8 x)
  c1 : w.cell? ⟨b, 1, none⟩ = some (.int .u8 y)
  c2 : w.cell? ⟨b, 2, none⟩ = some (.int .u8 z)
  lt : b < w.heap.size

theorem A3.new (w : World) (x y z : Int) : A3 (w.alloc (.cells #[.int .u8 x, .int .u8 y, .int .u8 z] 27)) w.heap.size x y z :=
  ⟨by simp, by simp, by simp, by simp⟩
theorem A3.keep {w w' : World} {B b : Nat} {x y z : Int} (h : A3 w b x y z) (hb : Below B w w') (hB : b < B) : A3 w' b x y z :=
  ⟨(hb.cell (p := ⟨b, 0, none⟩) hB).trans h.c0, (hb.cell (p := ⟨b, 1, none⟩) hB).trans h.c1, (hb.cell (p := ⟨b, 2, none⟩) hB).trans h.c2, Nat.lt_of_lt_of_le h.lt hb.size⟩
theorem A3.call {w w' : World} {b : Nat} {x y z : Int} (h : A3 w b x y z) (hb : Below w.heap.size w w') : A3 w' b x y z := h.keep hb h.lt

set_option maxHeartbeats 4000000 in
theorem law_far (a b c x y z : Int) (ha : 0 ≤ a ∧ a ≤ 255) (hb : 0 ≤ b ∧ b ≤ 255) (hc : 0 ≤ c ∧ c ≤ 255) (hx : 0 ≤ x ∧ x ≤ 255) (hy : 0 ≤ y ∧ y ≤ 255) (hz : 0 ≤ z ∧ z ≤ 255) :
    Gives 32 #[arr3 a b c, arr3 x y z] (.int .i64 (dist a b c x y z)) := by
  intro w
  obtain ⟨p0, p1⟩ := sq_le a x ha.1 ha.2 hx.1 hx.2
  obtain ⟨q0, q1⟩ := sq_le b y hb.1 hb.2 hy.1 hy.2
  obtain ⟨r0, r1⟩ := sq_le c z hc.1 hc.2 hz.1 hz.2
  have H : Hid (dist a b c x y z = (a - x) * (a - x) + (b - y) * (b - y) + (c - z) * (c - z)) := rfl
  obtain ⟨ha0, ha1⟩ := ha; obtain ⟨hb0, hb1⟩ := hb; obtain ⟨hc0, hc1⟩ := hc
  obtain ⟨hx0, hx1⟩ := hx; obtain ⟨hy0, hy1⟩ := hy; obtain ⟨hz0, hz1⟩ := hz
  have d1 : IntKind.i64.wrap (a - x) = a - x := IntWalk.i64_in _ (by omega)
  have d2 : IntKind.i64.wrap (b - y) = b - y := IntWalk.i64_in _ (by omega)
  have d3 : IntKind.i64.wrap (c - z) = c - z := IntWalk.i64_in _ (by omega)
  go_enter Tryd.func32, Tryd.ntmps32
  go_wp2_with fail
  refine wp_loop_rounds 4 ?_
  rw [rounds_succ]
  go_wp2_with fail
  go_quiet (fail)
  go_wp2_with fail
  rw [rounds_succ]
  go_wp2_with fail
  go_quiet (fail)
  go_wp2_with fail
  rw [rounds_succ]
  go_wp2_with fail
  go_quiet (fail)
  go_wp2_with fail
  rw [rounds_succ]
  go_wp2_with fail
  go_ret
  exact ⟨ret_int (by rw [H.out]), below_drewN (by go_grown) _⟩
end Go.Proofs.YtpbpkdhdjdaiiaaDoor
