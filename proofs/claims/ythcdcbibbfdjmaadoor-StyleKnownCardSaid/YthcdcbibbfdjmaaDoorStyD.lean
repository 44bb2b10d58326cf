/- Patches put together: the walks of both sides. -/
import Derived.Test.YthcdcbibbfdjmaaDoorStyC
import Derived.Test.YthcdcbibbfdjmaaDoorGen
import Derived.Deep.DeepCutAuto
namespace Go.Proofs.YthcdcbibbfdjmaaDoor
open Go.RowKit Go.Sort
set_option linter.unusedVariables false

set_option maxHeartbeats 4000000 in
set_option maxRecDepth 100000 in
theorem st_Then (f b : Int) (a d : B8) (f' b' : Int) (a' d' : B8) : Gives 29 #[patV f b a d, patV f' b' a' d']
    (patV (thenP ⟨f, b, a, d⟩ ⟨f', b', a', d'⟩).fg (thenP ⟨f, b, a, d⟩ ⟨f', b', a', d'⟩).bg (thenP ⟨f, b, a, d⟩ ⟨f', b', a', d'⟩).add (thenP ⟨f, b, a, d⟩ ⟨f', b', a', d'⟩).drop) := by
  intro w
  go_enter Tryd.func29, Tryd.ntmps29
  go_upto_region 1 with fail
  go_cut [] from 7 to 10 (fun wx => C4 wx w.heap.size (.int .i32 (cnt f)) (.int .i32 (cnt b)) (.int .u8 (bI a)) (.int .u8 (bI (d &&& ~~~a)))
    ∧ C4 wx (w.heap.size + 1) (.int .i32 (cnt f')) (.int .i32 (cnt b')) (.int .u8 (bI a')) (.int .u8 (bI (d' &&& ~~~a')))
    ∧ C4 wx (w.heap.size + 1 + 1) (.int .i32 0) (.int .i32 0) (.int .u8 0) (.int .u8 0) ∧ Below w.heap.size w wx)
  case first =>
    obtain ⟨W, hW⟩ : ∃ W, W = ((w.alloc (.cells #[.int .i32 f, .int .i32 b, .int .u8 (bI a), .int .u8 (bI d)] 36)).alloc (.cells #[.int .i32 f', .int .i32 b', .int .u8 (bI a'), .int .u8 (bI d')] 36)).alloc (.cells #[.int .i32 0, .int .i32 0, .int .u8 0, .int .u8 0] 36) := ⟨_, rfl⟩
    have k0 : C4 W w.heap.size (.int .i32 f) (.int .i32 b) (.int .u8 (bI a)) (.int .u8 (bI d)) := by subst hW; constructor <;> simp [go_sem]
    have k1 : C4 W (w.heap.size + 1) (.int .i32 f') (.int .i32 b') (.int .u8 (bI a')) (.int .u8 (bI d')) := by subst hW; constructor <;> simp [go_sem]
    have k2 : C4 W (w.heap.size + 1 + 1) (.int .i32 0) (.int .i32 0) (.int .u8 0) (.int .u8 0) := by subst hW; constructor <;> simp [go_sem]
    have hb : Below w.heap.size w W := by subst hW; go_grown
    rw [← hW]
    clear hW
    have g00 := fun d os => (k0.regrown d os).c0
    have g01 := fun d os => (k0.regrown d os).c1
    have g02 := fun d os => (k0.regrown d os).c2
    have g03 := fun d os => (k0.regrown d os).c3
    have g10 := fun d os => (k1.regrown d os).c0
    have g11 := fun d os => (k1.regrown d os).c1
    have g12 := fun d os => (k1.regrown d os).c2
    have g13 := fun d os => (k1.regrown d os).c3
    refine wp_region_below_tail 4 (by kernel_rfl) (by kernel_rfl) ?_
    simp only [List.take_succ_cons, List.take_zero, List.drop_succ_cons, List.drop_zero]
    repeat (quiet_step (exact (st_told _ _ _ _).regrown))
    refine wpQuiet_nil ?_
    intro _ hw'
    obtain ⟨⟨dq, osq⟩, hw''⟩ := hw'
    subst hw''
    have hb1 := hb.trans ((below_regrown W dq osq).mono hb.size)
    have h0 := k0.regrown dq osq
    have h1 := k1.regrown dq osq
    have h2 := k2.regrown dq osq
    clear g00 g01 g02 g03 g10 g11 g12 g13 k0 k1 k2 hb
    generalize grow (redrawn W dq) osq = W1 at *
    have K0 := Lib.hid h0
    have K1 := Lib.hid h1
    have K2 := Lib.hid h2
    obtain ⟨p0, p1, p2, p3, r0, r1, r2, r3⟩ := h0
    obtain ⟨q0, q1, q2, q3, s0, s1, s2, s3⟩ := h1
    clear h2
    go_wp2_with fail
    go_meet
    refine ⟨?_, ?_, ?_, ?_⟩
    · have := K0.out.put (.int .i32 (cnt f)) (.int .i32 (cnt b)) (.int .u8 (bI a)) (.int .u8 (bI (d &&& ~~~a)))
      exact (((this.far (by omega)).far (by omega)).far (by omega)).far (by omega)
    · exact ((((K1.out.far (by omega)).far (by omega)).far (by omega)).far (by omega)).put _ _ _ _
    · exact (((((((K2.out.far (by omega)).far (by omega)).far (by omega)).far (by omega)).far (by omega)).far (by omega)).far (by omega)).far (by omega)
    · exact (((((((hb1.setCell (Nat.le_refl _) _).setCell (Nat.le_refl _) _).setCell (Nat.le_refl _) _).setCell (Nat.le_refl _) _).setCell (Nat.le_succ _) _).setCell (Nat.le_succ _) _).setCell (Nat.le_succ _) _).setCell (Nat.le_succ _) _
  case rest =>
    obtain ⟨⟨p0, p1, p2, p3, r0, r1, r2, r3⟩, ⟨q0, q1, q2, q3, s0, s1, s2, s3⟩, ⟨t0, t1, t2, t3, u0, u1, u2, u3⟩, hb⟩ := hcut
    have hl := block_lt_of_cell t0
    have l0 := block_lt_of_cell p0
    have l1 := block_lt_of_cell q0
    simp only at hl l0 l1
    have A1 : Hid ((thenP ⟨f, b, a, d⟩ ⟨f', b', a', d'⟩).add = (a &&& ~~~(d' &&& ~~~a')) ||| a') := Lib.hid rfl
    have A2 : Hid ((thenP ⟨f, b, a, d⟩ ⟨f', b', a', d'⟩).drop = ((d &&& ~~~a) ||| (d' &&& ~~~a')) &&& ~~~((a &&& ~~~(d' &&& ~~~a')) ||| a')) := Lib.hid rfl
    by_cases c1 : cnt f' = 0
    all_goals by_cases c2 : cnt b' = 0
    all_goals
      have E1 : (thenP ⟨f, b, a, d⟩ ⟨f', b', a', d'⟩).fg = if cnt f' = 0 then cnt f else cnt f' := rfl
      have E2 : (thenP ⟨f, b, a, d⟩ ⟨f', b', a', d'⟩).bg = if cnt b' = 0 then cnt b else cnt b' := rfl
      first | rw [if_pos c1] at E1 | rw [if_neg c1] at E1
      first | rw [if_pos c2] at E2 | rw [if_neg c2] at E2
      have E1 := Lib.hid E1
      have E2 := Lib.hid E2
      generalize cnt f = F at *
      generalize cnt b = B at *
      generalize cnt f' = F' at *
      generalize cnt b' = B' at *
      try subst c1
      try subst c2
      go_wp2_with fail
      refine bodyPost_ret (v := patV (thenP ⟨f, b, a, d⟩ ⟨f', b', a', d'⟩).fg (thenP ⟨f, b, a, d⟩ ⟨f', b', a', d'⟩).bg (thenP ⟨f, b, a, d⟩ ⟨f', b', a', d'⟩).add (thenP ⟨f, b, a, d⟩ ⟨f', b', a', d'⟩).drop) (by rw [E1.out, E2.out, A1.out, A2.out]; simp [results, Tryd.results29, go_sem, t0, t1, t2, t3, hl]) rfl ⟨rfl, ?_⟩
      refine Below.alloc ?_ (by simp; omega) _
      exact (((hb.setCell (Nat.le_trans (Nat.le_succ _) (Nat.le_succ _)) _).setCell (Nat.le_trans (Nat.le_succ _) (Nat.le_succ _)) _).setCell (Nat.le_trans (Nat.le_succ _) (Nat.le_succ _)) _).setCell (Nat.le_trans (Nat.le_succ _) (Nat.le_succ _)) _
end Go.Proofs.YthcdcbibbfdjmaaDoor
