/- A tape is played: where a time stands, which key is before it (plain). -/
import Derived.Test.YtmaofighbpnbiaaGreatDoorYTpM
namespace Go.Proofs.YtmaofighbpnbiaaGreatDoor
set_option linter.unusedVariables false
set_option linter.unusedSimpArgs false
theorem upto_of {F : List Frm} {time : Int} {lo : Nat} (hl : lo ≤ F.length) (h1 : ∀ t, (ht : t < F.length) → t < lo → (F[t]).at_ ≤ time) (h2 : ∀ t, (ht : t < F.length) → lo ≤ t → time < (F[t]).at_) : uptoL F time = lo := by
 have e : F = F.take lo ++ F.drop lo := (List.take_append_drop lo F).symm
 have a : (F.take lo).filter (fun f => decide (f.at_ ≤ time)) = F.take lo := by
  rw [List.filter_eq_self]
  intro x m
  obtain ⟨j, hj, rfl⟩ := List.mem_iff_getElem.1 m
  rw [List.length_take] at hj
  rw [List.getElem_take]
  exact decide_eq_true (h1 j (by omega) (by omega))
 have b : (F.drop lo).filter (fun f => decide (f.at_ ≤ time)) = [] := by
  rw [List.filter_eq_nil_iff]
  intro x m
  obtain ⟨j, hj, rfl⟩ := List.mem_iff_getElem.1 m
  rw [List.length_drop] at hj
  rw [List.getElem_drop]
  have := h2 (lo + j) (by omega) (by omega)
  simp; omega
 unfold uptoL
 have c : F.filter (fun f => decide (f.at_ ≤ time)) = F.take lo := by
  conv => lhs; rw [e]
  rw [List.filter_append, a, b, List.append_nil]
 rw [c, List.length_take]
 omega
theorem upto_le (F : List Frm) (time : Int) : uptoL F time ≤ F.length := List.length_filter_le _ _
theorem timed_mono : ∀ (l : List Frm) (w : Int), timedF w l = true → ∀ i j, (hj : j < l.length) → (hij : i ≤ j) → (l[i]'(Nat.lt_of_le_of_lt hij hj)).at_ ≤ (l[j]).at_ ∧ w ≤ (l[j]).at_ ∧ (l[j]).at_ ≤ 1099511627776
 | [], _, _, i, j, hj, _ => by simp at hj
 | f :: l, w, ht, i, j, hj, hij => by
  rw [timedF, Bool.and_eq_true] at ht
  have t1 := of_decide_eq_true ht.1
  cases j with
  | zero =>
   obtain rfl : i = 0 := by omega
   exact ⟨Int.le_refl _, t1⟩
  | succ j =>
   have r := timed_mono l f.at_ ht.2 j j (by simpa using hj) (Nat.le_refl _)
   cases i with
   | zero => exact ⟨r.2.1, Int.le_trans t1.1 r.2.1, r.2.2⟩
   | succ i =>
    have q := timed_mono l f.at_ ht.2 i j (by simpa using hj) (by omega)
    exact ⟨q.1, Int.le_trans t1.1 q.2.1, q.2.2⟩
theorem play_key (w h : Int) (F : List Frm) (a b : Nat) (hab : a ≤ b) : feedT (playT w h (F.take a)) (((F.drop a).take (b - a)).flatMap (·.bs)) = playT w h (F.take b) := by
 rw [← play_app]
 congr 1
 have := List.take_add (l := F) (i := a) (j := b - a)
 rw [show a + (b - a) = b by omega] at this
 exact this.symm
theorem play_next (w h : Int) (F : List Frm) (k : Nat) (hk : k < F.length) : feedT (playT w h (F.take k)) (F[k]).bs = playT w h (F.take (k + 1)) := by
 have := play_key w h F k (k + 1) (by omega)
 rw [show k + 1 - k = 1 by omega, List.drop_eq_getElem_cons hk, List.take_succ_cons, List.take_zero, List.flatMap_cons, List.flatMap_nil, List.append_nil] at this
 exact this
def newC (w h : Int) (l : List Frm) (every : Int) : Int := if sizedB w h = false then 5 else if checkT l ≠ 0 then checkT l else if every < 1 then 2 else 0
theorem newC_ok {w h : Int} {l : List Frm} {every : Int} (e : newC w h l every = 0) : sizedB w h = true ∧ checkT l = 0 ∧ 1 ≤ every := by
 unfold newC at e
 split at e
 ·exact absurd e (by decide)
 ·split at e
  ·rename_i z; exact absurd e z
  ·split at e
   ·exact absurd e (by decide)
   ·rename_i a b c
    exact ⟨by cases q : sizedB w h with | false => exact absurd q a | true => rfl, by omega, by omega⟩
theorem long_each {l : List Frm} (h : longB l = false) : ∀ f ∈ l, f.bs.length ≤ 1048576 := fun f m => by
 unfold longB at h
 rw [List.any_eq_false] at h
 have := h f m
 simp at this
 omega
theorem flat_len {l : List Frm} (h : longB l = false) : (l.flatMap (·.bs)).length ≤ l.length * 1048576 := by
 induction l with
 | nil => simp
 | cons f l ih =>
  have := long_each h f (List.mem_cons_self)
  have h2 : longB l = false := by unfold longB at h ⊢; rw [List.any_cons, Bool.or_eq_false_iff] at h; exact h.2
  have := ih h2
  rw [List.flatMap_cons, List.length_append, List.length_cons]
  omega
end Go.Proofs.YtmaofighbpnbiaaGreatDoor
