/- Tapes that are joined: three at once are two and the third; the first one's part shows what it showed (plain; of no program). -/
import Derived.Test.YtmaofighbpnbiaaGreatDoorYTpR
namespace Go.Proofs.YtmaofighbpnbiaaGreatDoor
set_option linter.unusedVariables false
set_option linter.unusedSimpArgs false
theorem join_step {t : List Frm} {ts : List (List Frm)} {out r : List Frm} (h : joinF (t :: ts) out = (r, 0)) : timedB t = true ∧ (t ≠ [] → lastAt t ≤ 1099511627776 - lastAt out) ∧ joinF ts (out ++ shiftL (lastAt out) t) = (r, 0) := by
 rw [joinF] at h
 split at h
 ·simp at h
 rename_i c
 refine ⟨?_, fun ne => ?_, h⟩
 ·cases q : timedB t with
  | true => rfl
  | false => exact absurd (Or.inl q) c
 ·rcases Int.lt_or_le (1099511627776 - lastAt out) (lastAt t) with z | z
  ·exact absurd (Or.inr ⟨ne, z⟩) c
  ·exact z
theorem join_go {t : List Frm} {ts : List (List Frm)} {out : List Frm} (h1 : timedB t = true) (h2 : t ≠ [] → lastAt t ≤ 1099511627776 - lastAt out) : joinF (t :: ts) out = joinF ts (out ++ shiftL (lastAt out) t) := by
 rw [joinF, if_neg]
 rintro (z | ⟨z1, z2⟩)
 ·rw [h1] at z; cases z
 ·have := h2 z1; omega
theorem join_ok {ts : List (List Frm)} {r : List Frm} (h : joinT ts = (r, 0)) : longT ts 0 = false ∧ joinF ts [] = (r, 0) := by
 unfold joinT at h
 split at h
 ·simp at h
 rename_i c
 exact ⟨by cases q : longT ts 0 with | false => rfl | true => exact absurd q c, h⟩
theorem join_of {ts : List (List Frm)} {r : List Frm} (h1 : longT ts 0 = false) (h2 : joinF ts [] = (r, 0)) : joinT ts = (r, 0) := by
 unfold joinT
 rw [if_neg (by rw [h1]; decide), h2]
theorem longT_parts {t : List Frm} {ts : List (List Frm)} {n : Nat} (h : longT (t :: ts) n = false) : manyB t = false ∧ n + t.length ≤ 16384 ∧ longT ts (n + t.length) = false := by
 rw [longT, Bool.or_eq_false_iff, Bool.or_eq_false_iff] at h
 exact ⟨h.1.1, by have := of_decide_eq_false h.1.2; omega, h.2⟩
theorem longT_of {t : List Frm} {ts : List (List Frm)} {n : Nat} (h1 : manyB t = false) (h2 : n + t.length ≤ 16384) (h3 : longT ts (n + t.length) = false) : longT (t :: ts) n = false := by
 rw [longT, h1, h3, decide_eq_false (show ¬ 16384 < n + t.length by omega)]
 rfl
theorem last_nil : lastAt [] = 0 := rfl
theorem time_ok {t : List Frm} (h : timedB t = true) : t ≠ [] → lastAt t ≤ 1099511627776 - lastAt [] := fun ne => by
 have := timed_last t 0 h ne
 rw [last_nil]
 omega
theorem join_one {a r : List Frm} (h : joinT [a] = (r, 0)) : r = a ∧ timedB a = true := by
 obtain ⟨l, j⟩ := join_ok h
 obtain ⟨t1, t2, j⟩ := join_step j
 rw [joinF, List.nil_append, last_nil, shift_zero] at j
 simp only [Prod.mk.injEq, and_true] at j
 exact ⟨j.symm, t1⟩
theorem join_head {a : List Frm} {ts : List (List Frm)} {r : List Frm} (h : joinT (a :: ts) = (r, 0)) : joinT [a] = (a, 0) := by
 obtain ⟨l, j⟩ := join_ok h
 obtain ⟨m, n, _⟩ := longT_parts l
 obtain ⟨t1, t2, _⟩ := join_step j
 refine join_of (longT_of m n rfl) ?_
 rw [join_go t1 t2, joinF, List.nil_append, last_nil, shift_zero]
theorem join_two {a b r : List Frm} (h : joinT [a, b] = (r, 0)) : r = a ++ shiftL (lastAt a) b ∧ timedB a = true ∧ timedB b = true ∧ (b ≠ [] → lastAt b ≤ 1099511627776 - lastAt a) ∧ checkT a = 0 ∧ checkT r = 0 := by
 obtain ⟨l, j⟩ := join_ok h
 obtain ⟨m1, n1, l⟩ := longT_parts l
 obtain ⟨m2, n2, l⟩ := longT_parts l
 obtain ⟨t1, t2, j⟩ := join_step j
 rw [List.nil_append, last_nil, shift_zero] at j
 obtain ⟨t3, t4, j⟩ := join_step j
 rw [joinF] at j
 simp only [Prod.mk.injEq, and_true] at j
 rw [manyB, Bool.or_eq_false_iff] at m1 m2
 refine ⟨j.symm, t1, t3, t4, check_of m1.1 (by omega) t1, ?_⟩
 rw [← j]
 refine check_of ?_ ?_ (timed_join t1 t3 t4)
 ·rw [long_app, long_shift, m1.1, m2.1]; rfl
 ·rw [List.length_append, shift_len]; omega
theorem join_three {a b c r : List Frm} (h : joinT [a, b, c] = (r, 0)) : ∃ two, joinT [a, b] = (two, 0) ∧ joinT [two, c] = (r, 0) := by
 obtain ⟨l, j⟩ := join_ok h
 obtain ⟨m1, n1, l⟩ := longT_parts l
 obtain ⟨m2, n2, l⟩ := longT_parts l
 obtain ⟨m3, n3, l⟩ := longT_parts l
 obtain ⟨t1, t2, j⟩ := join_step j
 rw [List.nil_append, last_nil, shift_zero] at j
 obtain ⟨t3, t4, j⟩ := join_step j
 obtain ⟨t5, t6, j⟩ := join_step j
 have T := timed_join t1 t3 t4
 obtain ⟨two, h2⟩ : ∃ two, two = a ++ shiftL (lastAt a) b := ⟨_, rfl⟩
 rw [← h2] at j t6 T
 have ln : two.length = a.length + b.length := by rw [h2, List.length_append, shift_len]
 have lb : longB two = false := by
  rw [manyB, Bool.or_eq_false_iff] at m1 m2
  rw [h2, long_app, long_shift, m1.1, m2.1]; rfl
 refine ⟨two, join_of (longT_of m1 n1 (longT_of m2 n2 rfl)) ?_, join_of (longT_of ?_ ?_ (longT_of m3 ?_ rfl)) ?_⟩
 ·rw [join_go t1 t2, List.nil_append, last_nil, shift_zero, join_go t3 t4, joinF, h2]
 ·rw [manyB, lb, decide_eq_false (show ¬ 16384 < two.length by omega)]; rfl
 ·omega
 ·omega
 ·rw [join_go T (time_ok T), List.nil_append, last_nil, shift_zero, join_go t5 t6, j]
theorem late_filter (time : Int) : ∀ (l : List Frm) (w : Int), timedF w l = true → time < w → l.filter (fun f => decide (f.at_ ≤ time)) = []
 | [], _, _, _ => rfl
 | g :: l, w, ht, lt => by
  rw [timedF, Bool.and_eq_true] at ht
  have t1 := of_decide_eq_true ht.1
  rw [List.filter_cons, if_neg (by simp; omega), late_filter time l g.at_ ht.2 (by omega)]
theorem join_shows {a b r : List Frm} (h : joinT [a, b] = (r, 0)) (time : Int) (ht : time < lastAt a) : uptoL r time = uptoL a time ∧ r.take (uptoL r time) = a.take (uptoL a time) := by
 obtain ⟨e, t1, t3, t4, _, _⟩ := join_two h
 have s := timed_shift (lastAt a) b 0 t3 (fun ne => by have := t4 ne; omega)
 rw [Int.zero_add] at s
 have f := late_filter time _ _ s ht
 have u : uptoL r time = uptoL a time := by
  unfold uptoL
  rw [e, List.filter_append, f, List.append_nil]
 refine ⟨u, ?_⟩
 have lu : uptoL a time ≤ a.length := by unfold uptoL; exact List.length_filter_le _ _
 rw [u, e, List.take_append_of_le_length lu]
end Go.Proofs.YtmaofighbpnbiaaGreatDoor
