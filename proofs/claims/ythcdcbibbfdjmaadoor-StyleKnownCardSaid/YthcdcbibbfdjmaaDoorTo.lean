/- The colours as 256 and as 16 colours have them. -/
import Derived.Test.YthcdcbibbfdjmaaDoorNearA
namespace Go.Proofs.YthcdcbibbfdjmaaDoor
open Go.RowKit

def to256V (c : Int) : Int := if 16777216 ≤ c ∧ c < 33554432 then 256 + bst (palD (chR c) (chG c) (chB c)) 16 240 else cnt c
def to16V (c : Int) : Int := if (16777216 ≤ c ∧ c < 33554432) ∨ (272 ≤ c ∧ c < 512) then 256 + bst (palD (chR c) (chG c) (chB c)) 0 16 else cnt c

set_option maxHeartbeats 4000000 in
theorem tint_To256 (c : Int) : Gives 62 #[.int .i32 c] (.int .i32 (to256V c)) := by
  intro w
  obtain ⟨hr, hg, hb⟩ := ch_range c
  by_cases h : 16777216 ≤ c ∧ c < 33554432
  · have hc : cnt c = c := by unfold cnt; rw [if_pos]; unfold rightB; rw [decide_eq_true_iff]; omega
    have H : Hid (to256V c = 256 + bst (palD (chR c) (chG c) (chB c)) 16 240) := by unfold Hid to256V; rw [if_pos h]
    have C := Lib.hid (tint_nearest (chR c) (chG c) (chB c) hr hg hb 16 240 (by omega) (by omega) 256 (by omega))
    obtain ⟨h1, h2⟩ := h
    clear hr hg hb
    go_enter Tryd.func62, Tryd.ntmps62
    go_wp2_with fail
    refine (tint_counted _ _).mono ?_; rintro e w' ⟨rfl, rfl⟩; rw [hc]
    go_wp2_with fail
    refine (tint_RGB _ _).mono ?_; rintro e w1 ⟨rfl, hb1⟩
    obtain ⟨hcl1, hfz1, hz1⟩ := bcell hb1
    go_wp2_with fail
    refine (C.out _).mono ?_; rintro e w2 ⟨rfl, hb2⟩
    have hw2 : Below w.heap.size w w2 := by
      refine below_call ?_ ?_ hb2
      · repeat (first | exact hb1 | refine below_drewN ?_ _ | refine Below.alloc ?_ (by go_size) _ | refine Below.setCell ?_ (by go_size) _)
      · simp; omega
    go_wp2_with fail
    go_ret
    exact ⟨ret_int (by rw [H.out]), hw2⟩
  · have hc : cnt c < 16777216 := by
      unfold cnt rightB
      split
      · rename_i q; rw [decide_eq_true_iff] at q; omega
      · omega
    have H : Hid (to256V c = cnt c) := by unfold Hid to256V; rw [if_neg h]
    clear h hr hg hb
    go_enter Tryd.func62, Tryd.ntmps62
    go_wp2_with fail
    refine (tint_counted _ _).mono ?_; rintro e w' ⟨rfl, rfl⟩
    go_wp2_with fail
    go_ret
    exact ⟨ret_int (by rw [H.out]), Below.refl _ _⟩

set_option maxHeartbeats 4000000 in
theorem tint_To16 (c : Int) : Gives 61 #[.int .i32 c] (.int .i32 (to16V c)) := by
  intro w
  obtain ⟨hr, hg, hb⟩ := ch_range c
  by_cases h : (16777216 ≤ c ∧ c < 33554432) ∨ (272 ≤ c ∧ c < 512)
  · have hc : cnt c = c := by unfold cnt; rw [if_pos]; unfold rightB; rw [decide_eq_true_iff]; omega
    have H : Hid (to16V c = 256 + bst (palD (chR c) (chG c) (chB c)) 0 16) := by unfold Hid to16V; rw [if_pos h]
    have C := Lib.hid (tint_nearest (chR c) (chG c) (chB c) hr hg hb 0 16 (by omega) (by omega) 16 (by omega))
    have h1 : 272 ≤ c := by omega
    clear hr hg hb h
    go_enter Tryd.func61, Tryd.ntmps61
    go_wp2_with fail
    refine (tint_counted _ _).mono ?_; rintro e w' ⟨rfl, rfl⟩; rw [hc]
    go_wp2_with fail
    refine (tint_RGB _ _).mono ?_; rintro e w1 ⟨rfl, hb1⟩
    obtain ⟨hcl1, hfz1, hz1⟩ := bcell hb1
    go_wp2_with fail
    refine (C.out _).mono ?_; rintro e w2 ⟨rfl, hb2⟩
    have hw2 : Below w.heap.size w w2 := by
      refine below_call ?_ ?_ hb2
      · repeat (first | exact hb1 | refine below_drewN ?_ _ | refine Below.alloc ?_ (by go_size) _ | refine Below.setCell ?_ (by go_size) _)
      · simp; omega
    go_wp2_with fail
    go_ret
    exact ⟨ret_int (by rw [H.out]), hw2⟩
  · have hc : cnt c < 272 := by
      unfold cnt rightB
      split
      · rename_i q; rw [decide_eq_true_iff] at q; omega
      · omega
    have H : Hid (to16V c = cnt c) := by unfold Hid to16V; rw [if_neg h]
    clear h hr hg hb
    go_enter Tryd.func61, Tryd.ntmps61
    go_wp2_with fail
    refine (tint_counted _ _).mono ?_; rintro e w' ⟨rfl, rfl⟩
    go_wp2_with fail
    go_ret
    exact ⟨ret_int (by rw [H.out]), Below.refl _ _⟩

set_option maxHeartbeats 4000000 in
theorem ref_To256 (c : Int) (hl : -2147483648 ≤ c) (hh : c ≤ 2147483647) : Gives 87 #[.int .i32 c] (.int .i32 (to256V c)) := by
  intro w
  obtain ⟨hr, hg, hb⟩ := ch_range c
  by_cases h : 16777216 ≤ c ∧ c < 33554432
  · have hs : sortK c = 3 ∧ sortN c = c - 16777216 := by rcases sort_cases c with ⟨_, _, _⟩ | ⟨_, _, _, _⟩ | ⟨_, _, x, y⟩ | ⟨_, _, _, _, _⟩ <;> first | exact ⟨x, y⟩ | omega
    have H : Hid (to256V c = 256 + bst (palD (chR c) (chG c) (chB c)) 16 240) := by unfold Hid to256V; rw [if_pos h]
    have C := Lib.hid (ref_nearest (chR c) (chG c) (chB c) hr hg hb 16 240 (by omega) (by omega) (by omega) 255 (by omega))
    obtain ⟨s1, s2⟩ := hs
    clear hr hg hb h
    go_enter Tryd.func87, Tryd.ntmps87
    go_wp2_with fail
    refine (ref_sort _ hl hh _).mono ?_; rintro e w' ⟨rfl, rfl⟩; rw [s1, s2]
    go_wp2_with fail
    refine (ref_RGB _ hl hh _).mono ?_; rintro e w1 ⟨rfl, hb1⟩
    obtain ⟨hcl1, hfz1, hz1⟩ := bcell hb1
    go_wp2_with fail
    refine (C.out _).mono ?_; rintro e w2 ⟨rfl, hb2⟩
    have hw2 : Below w.heap.size w w2 := by
      refine below_call ?_ ?_ hb2
      · repeat (first | exact hb1 | refine below_drewN ?_ _ | refine Below.alloc ?_ (by go_size) _ | refine Below.setCell ?_ (by go_size) _)
      · simp; omega
    go_wp2_with fail
    go_ret
    exact ⟨ret_int (by rw [H.out]), hw2⟩
  · have hs : sortK c ≠ 3 := by rcases sort_cases c with ⟨_, x, _⟩ | ⟨_, _, x, _⟩ | ⟨_, _, _, _⟩ | ⟨_, _, _, x, _⟩ <;> omega
    have H : Hid (to256V c = cnt c) := by unfold Hid to256V; rw [if_neg h]
    clear h hr hg hb
    go_enter Tryd.func87, Tryd.ntmps87
    go_wp2_with fail
    refine (ref_sort _ hl hh _).mono ?_; rintro e w' ⟨rfl, rfl⟩
    go_wp2_with fail
    refine (ref_Counted _ hl hh _).mono ?_; rintro e w' ⟨rfl, rfl⟩
    go_wp2_with fail
    go_ret
    exact ⟨ret_int (by rw [H.out]), Below.refl _ _⟩

set_option maxHeartbeats 4000000 in
theorem ref_To16 (c : Int) (hl : -2147483648 ≤ c) (hh : c ≤ 2147483647) : Gives 86 #[.int .i32 c] (.int .i32 (to16V c)) := by
  intro w
  obtain ⟨hr, hg, hb⟩ := ch_range c
  have C := Lib.hid (ref_nearest (chR c) (chG c) (chB c) hr hg hb 0 16 (by omega) (by omega) (by omega) 15 (by omega))
  clear hr hg hb
  rcases sort_cases c with ⟨c1, s1, s2⟩ | ⟨c1, c2, s1, s2⟩ | ⟨c1, c2, s1, s2⟩ | ⟨c1, c2, c3, s1, s2⟩
  · have H : Hid (to16V c = cnt c) := by unfold Hid to16V; rw [if_neg (by omega)]
    clear c1
    go_enter Tryd.func86, Tryd.ntmps86
    go_wp2_with fail
    refine (ref_sort _ hl hh _).mono ?_; rintro e w' ⟨rfl, rfl⟩; rw [s1, s2]
    go_wp2_with fail
    refine (ref_Counted _ hl hh _).mono ?_; rintro e w' ⟨rfl, rfl⟩
    go_wp2_with fail
    go_ret
    exact ⟨ret_int (by rw [H.out]), Below.refl _ _⟩
  · by_cases lt : c < 272
    · have H : Hid (to16V c = cnt c) := by unfold Hid to16V; rw [if_neg (by omega)]
      go_enter Tryd.func86, Tryd.ntmps86
      go_wp2_with fail
      refine (ref_sort _ hl hh _).mono ?_; rintro e w' ⟨rfl, rfl⟩; rw [s1, s2]
      go_wp2_with fail
      refine (ref_Counted _ hl hh _).mono ?_; rintro e w' ⟨rfl, rfl⟩
      go_wp2_with fail
      go_ret
      exact ⟨ret_int (by rw [H.out]), Below.refl _ _⟩
    · have H : Hid (to16V c = 256 + bst (palD (chR c) (chG c) (chB c)) 0 16) := by unfold Hid to16V; rw [if_pos (by omega)]
      go_enter Tryd.func86, Tryd.ntmps86
      go_wp2_with fail
      refine (ref_sort _ hl hh _).mono ?_; rintro e w' ⟨rfl, rfl⟩; rw [s1, s2]
      go_wp2_with fail
      refine (ref_RGB _ hl hh _).mono ?_; rintro e w1 ⟨rfl, hb1⟩
      obtain ⟨hcl1, hfz1, hz1⟩ := bcell hb1
      go_wp2_with fail
      refine (C.out _).mono ?_; rintro e w2 ⟨rfl, hb2⟩
      have hw2 : Below w.heap.size w w2 := by
        refine below_call ?_ ?_ hb2
        · repeat (first | exact hb1 | refine below_drewN ?_ _ | refine Below.alloc ?_ (by go_size) _ | refine Below.setCell ?_ (by go_size) _)
        · simp; omega
      go_wp2_with fail
      go_ret
      exact ⟨ret_int (by rw [H.out]), hw2⟩
  · have H : Hid (to16V c = 256 + bst (palD (chR c) (chG c) (chB c)) 0 16) := by unfold Hid to16V; rw [if_pos (by omega)]
    go_enter Tryd.func86, Tryd.ntmps86
    go_wp2_with fail
    refine (ref_sort _ hl hh _).mono ?_; rintro e w' ⟨rfl, rfl⟩; rw [s1, s2]
    go_wp2_with fail
    refine (ref_RGB _ hl hh _).mono ?_; rintro e w1 ⟨rfl, hb1⟩
    obtain ⟨hcl1, hfz1, hz1⟩ := bcell hb1
    go_wp2_with fail
    refine (C.out _).mono ?_; rintro e w2 ⟨rfl, hb2⟩
    have hw2 : Below w.heap.size w w2 := by
      refine below_call ?_ ?_ hb2
      · repeat (first | exact hb1 | refine below_drewN ?_ _ | refine Below.alloc ?_ (by go_size) _ | refine Below.setCell ?_ (by go_size) _)
      · simp; omega
    go_wp2_with fail
    go_ret
    exact ⟨ret_int (by rw [H.out]), hw2⟩
  · have H : Hid (to16V c = cnt c) := by unfold Hid to16V; rw [if_neg (by omega)]
    clear c1 c2 c3
    go_enter Tryd.func86, Tryd.ntmps86
    go_wp2_with fail
    refine (ref_sort _ hl hh _).mono ?_; rintro e w' ⟨rfl, rfl⟩; rw [s1, s2]
    go_wp2_with fail
    refine (ref_Counted _ hl hh _).mono ?_; rintro e w' ⟨rfl, rfl⟩
    go_wp2_with fail
    go_ret
    exact ⟨ret_int (by rw [H.out]), Below.refl _ _⟩
end Go.Proofs.YthcdcbibbfdjmaaDoor
