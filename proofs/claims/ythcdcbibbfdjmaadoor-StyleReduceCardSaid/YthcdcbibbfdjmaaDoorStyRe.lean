/- The law StyleReduce: the walk. -/
import Derived.Test.YthcdcbibbfdjmaaDoorStyQ
import Derived.Test.YthcdcbibbfdjmaaDoorGen
import Derived.Deep.DeepCutAuto
namespace Go.Proofs.YthcdcbibbfdjmaaDoor
open Go.RowKit Go.Sort
set_option linter.unusedVariables false

set_option maxHeartbeats 8000000 in
set_option maxRecDepth 100000 in
theorem styleReduce_walk (s : Sty) (d : Int) (hf : col32 s.fg) (hb : col32 s.bg) (w : World) (A : ∀ W, Below w.heap.size w W → Calls Tryd.prog 21 #[] W fun e w' => e = .returned (.bool true) ∧ Below W.heap.size W w') :
    Calls Tryd.prog 9 #[styV s.fg s.bg s.at_, .int .i64 d] w fun e w' => e = .returned (.bool true) ∧ Below w.heap.size w w' := by
  have A := Lib.hid A
  have C1 := Lib.hid (fun W => (st_Reduce s d).later (w := W))
  have C2 := Lib.hid (fun W => (ref_Reduce s d hf hb).later (w := W))
  clear hf hb
  generalize reduceS s d = r at *
  go_enter Tryd.func9, Tryd.ntmps9
  go_upto_region 1 with fail
  obtain ⟨W, hW⟩ : ∃ W, W = w.alloc (.cells #[.int .i32 s.fg, .int .i32 s.bg, .int .u8 (bI s.at_)] 24) := ⟨_, rfl⟩
  have k0 : C3 W w.heap.size (.int .i32 s.fg) (.int .i32 s.bg) (.int .u8 (bI s.at_)) := by subst hW; constructor <;> simp [go_sem]
  have HB : Below w.heap.size w W := by subst hW; go_grown
  rw [← hW]
  clear hW
  have AL := Lib.hid (fun d os => calls_later (A.out (grow (redrawn W d) os) (HB.trans ((below_regrown W d os).mono HB.size))))
  have g00 := fun d os => ((k0).regrown d os).c0
  have g01 := fun d os => ((k0).regrown d os).c1
  have g02 := fun d os => ((k0).regrown d os).c2
  refine wp_region_spec 10 [] [] (by kernel_rfl) (by kernel_rfl) (by kernel_rfl) (by intro t ht; cases ht) ?_
  simp only [List.take_succ_cons, List.take_zero, List.drop_succ_cons, List.drop_zero]
  repeat (refine wpS_step (by rfl) (fun K hK => ?_); go_simp; first | (refine hK _ ?_; clear hK K) | (apply Exists.intro; refine ⟨fun _ => ?_, hK _ ?_⟩; (first | with_reducible exact C1.out _ | with_reducible exact C2.out _ | with_reducible exact AL.out _ _); clear hK K))
  refine wpS_nil ?_
  intro W5 vs5 hl hv
  have hb5 := later_below.1 hl
  simp only [fillA]
  go_wp2_with fail
  go_ret
  exact ⟨rfl, HB.trans (hb5.mono HB.size)⟩
end Go.Proofs.YthcdcbibbfdjmaaDoor
