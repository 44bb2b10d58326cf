/- The colours as 256 and as 16 colours have them. -/
import Derived.Test.YtkllilehdpdbdaaDoorNearA
namespace Go.Proofs.YtkllilehdpdbdaaDoor
open Go.RowKit

def to256V (c : Int) : Int := if 16777216 ≤ c ∧ c < 33554432 then 256 + bst (palD (chR c) (chG c) (chB c)) 16 240 else cnt c
def to16V (c : Int) : Int := if (16777216 ≤ c ∧ c < 33554432) ∨ (272 ≤ c ∧ c < 512) then 256 + bst (palD (chR c) (chG c) (chB c)) 0 16 else cnt c

set_option maxHeartbeats 4000000 in
theorem tint_To256 (c : Int) : Gives 24 #[.int .i32 c] (.int .i32 (to256V c)) := by
  intro w
  obtain ⟨hr, hg, hb⟩ := ch_range c
  by_cases h : 16777216 ≤ c ∧ c < 33554432
  · have hc : cnt c = c := by unfold cnt; rw [if_pos]; unfold rightB; rw [decide_eq_true_iff]; omega
    have H : Hid (to256V c = 256 + bst (palD (chR c) (chG c) (chB c)) 16 240) := by unfold Hid to256V; rw [if_pos h]
    have C := Lib.hid (tint_nearest (chR c) (chG c) (chB c) hr hg hb 16 240 (by omega) (by omega) 256 (by omega))
    obtain ⟨h1, h2⟩ := h
    clear hr hg hb
    go_enter Tryd.func24, Tryd.ntmps24
    go_wp2_with fail
    refine (tint_counted _ _).mono ?_; rintro e w' ⟨rfl, rfl⟩; rw [hc]
    go_wp2_with fail
    refine (tint_RGB _ _).mono ?_; rintro e w1 ⟨rfl, hb1⟩
    obtain ⟨hcl1, hfz1, hz1⟩ := bcell hb1
    go_wp2_with fail
    refine (C.out _).mono ?_; rintro e w2 ⟨rfl, hb2⟩
    have hw2 : Below w.heap.size w w2 := by
      refine below_call ?_ ?_ hb2
      · repeat (first | exact hb1 | refine below_drewN ?_ _ | refine Below.alloc ?_ (by go_size) _ | refine Below.setCell ?_ (by go_size) _)
      · simp; omega
    go_wp2_with fail
    go_ret
    exact ⟨ret_int (by rw [H.out]), hw2⟩
  · have hc : cnt c < 16777216 := by
      unfold cnt rightB
      split
      · rename_i q; rw [decide_eq_true_iff] at q; omega
      · omega
    have H : Hid (to256V c = cnt c) := by unfold Hid to256V; rw [if_neg h]
    clear h hr hg hb
    go_enter Tryd.func24, Tryd.ntmps24
    go_wp2_with fail
    refine (tint_counted _ _).mono ?_; rintro e w' ⟨rfl, rfl⟩
    go_wp2_with fail
    go_ret
    exact ⟨ret_int (by rw [H.out]), Below.refl _ _⟩

set_option maxHeartbeats 4000000 in
theorem tint_To16 (c : Int) : Gives 23 #[.int .i32 c] (.int .i32 (to16V c)) := by
  intro w
  obtain ⟨hr, hg, hb⟩ := ch_range c
  by_cases h : (16777216 ≤ c ∧ c < 33554432) ∨ (272 ≤ c ∧ c < 512)
  · have hc : cnt c = c := by unfold cnt; rw [if_pos]; unfold rightB; rw [decide_eq_true_iff]; omega
    have H : Hid (to16V c = 256 + bst (palD (chR c) (chG c) (chB c)) 0 16) := by unfold Hid to16V; rw [if_pos h]
    have C := Lib.hid (tint_nearest (chR c) (chG c) (chB c) hr hg hb 0 16 (by omega) (by omega) 16 (by omega))
    have h1 : 272 ≤ c := by omega
    clear hr hg hb h
    go_enter Tryd.func23, Tryd.ntmps23
    go_wp2_with fail
    refine (tint_counted _ _).mono ?_; rintro e w' ⟨rfl, rfl⟩; rw [hc]
    go_wp2_with fail
    refine (tint_RGB _ _).mono ?_; rintro e w1 ⟨rfl, hb1⟩
    obtain ⟨hcl1, hfz1, hz1⟩ := bcell hb1
    go_wp2_with fail
    refine (C.out _).mono ?_; rintro e w2 ⟨rfl, hb2⟩
    have hw2 : Below w.heap.size w w2 := by
      refine below_call ?_ ?_ hb2
      · repeat (first | exact hb1 | refine below_drewN ?_ _ | refine Below.alloc ?_ (by go_size) _ | refine Below.setCell ?_ (by go_size) _)
      · simp; omega
    go_wp2_with fail
    go_ret
    exact ⟨ret_int (by rw [H.out]), hw2⟩
  · have hc : cnt c < 272 := by
      unfold cnt rightB
      split
      · rename_i q; rw [decide_eq_true_iff] at q; omega
      · omega
    have H : Hid (to16V c = cnt c) := by unfold Hid to16V; rw [if_neg h]
    clear h hr hg hb
    go_enter Tryd.func23, Tryd.ntmps23
    go_wp2_with fail
    refine (tint_counted _ _).mono ?_; rintro e w' ⟨rfl, rfl⟩
    go_wp2_with fail
    go_ret
    exact ⟨ret_int (by rw [H.out]), Below.refl _ _⟩


end Go.Proofs.YtkllilehdpdbdaaDoor
