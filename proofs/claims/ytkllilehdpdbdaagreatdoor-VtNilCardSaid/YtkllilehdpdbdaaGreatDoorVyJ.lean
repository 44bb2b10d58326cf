/- VtNil: the walk. -/
import Derived.Test.YtkllilehdpdbdaaGreatDoorVyPb
namespace Go.Proofs.YtkllilehdpdbdaaGreatDoor
open Go Go.RowKit Go.Sort
set_option linter.unusedVariables false
set_option linter.unusedSimpArgs false
section
theorem n_Resize (w h : Int) (W : World) : Calls Tryz.prog 23 #[.pointer none, .int .i64 w, .int .i64 h] W fun e w' => e = .returned (.int .i64 1) ∧ w' = W := by
  go_enter Tryz.func23, Tryz.ntmps23
  go_wp2_with fail
  go_ret
  exact ⟨rfl, rfl⟩
theorem n_Feed (v : Value) (W : World) : Calls Tryz.prog 16 #[.pointer none, v] W fun e w' => e = .returned (.int .i64 1) ∧ w' = W := by
  go_enter Tryz.func16, Tryz.ntmps16
  go_wp2_with fail
  go_ret
  exact ⟨rfl, rfl⟩
set_option maxRecDepth 100000 in
theorem n_Screen (W : World) : Calls Tryz.prog 24 #[.pointer none] W fun e w' => e = .returned (.agg #[.int .i64 0, .int .i64 0, .slice none 0 0, .int .i64 0, .int .i64 0, .bool false]) ∧ Below W.heap.size W w' := by
  go_enter Tryz.func24, Tryz.ntmps24
  go_wp2_with fail
  refine bodyPost_ret (v := .agg #[.int .i64 0, .int .i64 0, .slice none 0 0, .int .i64 0, .int .i64 0, .bool false]) (by rw [results_cell1 rfl]; go_simp) rfl ?_
  exact ⟨rfl, by go_grown⟩
set_option maxHeartbeats 8000000 in
set_option maxRecDepth 100000 in
theorem vtNil_walk (v : Value) (w h : Int) (W : World) (E : EnvV W) : Calls Tryz.prog 11 #[v, .int .i64 w, .int .i64 h] W fun e w' => e = .returned (.bool true) ∧ Below W.heap.size W w' := by
  have SC := Lib.hid (n_Screen W)
  have EH := Lib.hid E
  clear E
  go_enter Tryz.func11, Tryz.ntmps11
  go_wp2_with fail
  refine SC.out.mono ?_; rintro e w1 ⟨rfl, hb⟩
  obtain ⟨V, hV⟩ : ∃ V, V = w1.alloc (.cells #[.int .i64 0, .int .i64 0, .slice none 0 0, .int .i64 0, .int .i64 0, .bool false] 42) := ⟨_, rfl⟩
  have K : Bk V w1.heap.size [.int .i64 0, .int .i64 0, .slice none 0 0, .int .i64 0, .int .i64 0, .bool false] 42 := by rw [hV]; exact Bk.new w1 _ _
  have BV : Below W.heap.size W V := by rw [hV]; exact hb.alloc hb.size _
  have j0 := K.c 0 _ rfl
  have j1 := K.c 1 _ rfl
  have j2 := K.c 2 _ rfl
  have j3 := K.c 3 _ rfl
  have j4 := K.c 4 _ rfl
  have j5 := K.c 5 _ rfl
  have EV : EnvV V := EH.out.mv (Mv.below (F := []) BV) (by simp)
  have WK := Lib.hid (law_works V EV)
  have BV := Lib.hid BV
  clear hb K SC EV
  go_upto_region 3 with fail
  rw [← hV]
  clear hV
  go_wp2_with fail
  refine (n_Feed v V).mono ?_; rintro e w2 ⟨rfl, rfl⟩
  go_wp2_with fail
  refine (n_Resize w h _).mono ?_; rintro e w3 ⟨rfl, rfl⟩
  go_wp2_with fail
  refine (t_Written_nil _).mono ?_; rintro e w4 ⟨rfl, rfl⟩
  go_wp2_with fail
  refine (t_Replies_nil _).mono ?_; rintro e w5 ⟨rfl, rfl⟩
  go_wp2_with fail
  refine (t_Title_nil _).mono ?_; rintro e w6 ⟨rfl, rfl⟩
  go_wp2_with fail
  refine (t_Clone_nil _).mono ?_; rintro e w7 ⟨rfl, rfl⟩
  go_wp2_with fail
  refine WK.out.mono ?_; rintro e w8 ⟨rfl, hb8⟩
  have B8 := Lib.hid (BV.out.trans (hb8.mono BV.out.size))
  clear hb8
  go_wp2_with fail
  go_ret
  exact ⟨rfl, B8.out⟩
end
end Go.Proofs.YtkllilehdpdbdaaGreatDoor
