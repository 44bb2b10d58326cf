/- TapeNone: the walk. -/
import Derived.Test.YtmaofighbpnbiaaGreatDoorZTqK
namespace Go.Proofs.YtmaofighbpnbiaaGreatDoor
open Go Go.RowKit Go.Sort
set_option linter.unusedVariables false
set_option linter.unusedSimpArgs false
set_option maxHeartbeats 4000000 in
set_option maxRecDepth 100000 in
theorem tapeNone_walk (time : Int) (W : World) (E : EnvV W) : Calls Tryz.prog 7 #[.int .i64 time] W fun e w' => e = .returned (.bool true) ∧ Below W.heap.size W w' := by
  have A1 := Lib.hid (t_PAt_no none time 1 (Or.inl ⟨rfl, rfl⟩) W)
  have L1 := Lib.hid t_PLen_nil
  have HE := Lib.hid E
  clear E
  go_enter Tryz.func7, Tryz.ntmps7
  go_wp2_with fail
  refine A1.out.mono ?_; rintro e w1 ⟨rfl, B1⟩
  obtain ⟨V, hV⟩ : ∃ V, V = w1.alloc (.cells #[.int .i64 0, .int .i64 0, .slice none 0 0, .int .i64 0, .int .i64 0, .bool false] 51) := ⟨_, rfl⟩
  have BV : Below w1.heap.size w1 V := by rw [hV]; exact (Below.refl _ _).alloc (Nat.le_refl _) _
  have K : Bk V w1.heap.size [.int .i64 0, .int .i64 0, .slice none 0 0, .int .i64 0, .int .i64 0, .bool false] 51 := by rw [hV]; exact Bk.new _ _ _
  have BB := B1.trans (BV.mono B1.size)
  have AL := Lib.hid (law_alive V (HE.out.mv (Mv.below (F := []) BB) (by simp)))
  have HB := Lib.hid BB
  have k0 := K.c 0 _ rfl
  have k2 := K.c 2 _ rfl
  have HV := Lib.hid hV
  unfold zScr
  clear A1 B1 hV BV K BB
  go_upto_region 3 with fail
  rw [← HV.out]
  go_wp2_with fail
  refine (L1.out V).mono ?_; rintro e w2 ⟨rfl, hw⟩
  rw [hw]
  clear hw
  go_wp2_with fail
  refine AL.out.mono ?_; rintro e w3 ⟨rfl, B3⟩
  have FIN := Lib.hid (HB.out.trans (B3.mono HB.out.size))
  clear AL B3
  go_wp2_with fail
  go_ret
  exact ⟨by rfl, FIN.out⟩
end Go.Proofs.YtmaofighbpnbiaaGreatDoor
