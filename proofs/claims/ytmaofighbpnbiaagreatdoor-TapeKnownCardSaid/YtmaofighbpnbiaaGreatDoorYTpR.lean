/- Tapes: shorter pauses, one behind the other, what is shown at a time (plain; of no program). -/
import Derived.Test.YtmaofighbpnbiaaGreatDoorYTpM
namespace Go.Proofs.YtmaofighbpnbiaaGreatDoor
set_option linter.unusedVariables false
set_option linter.unusedSimpArgs false
/-! shorter pauses -/
def sqF (most : Int) : Int → Int → List Frm → List Frm
 | _, _, [] => []
 | at_, was, f :: l => ⟨at_ + min most (f.at_ - was), f.bs⟩ :: sqF most (at_ + min most (f.at_ - was)) f.at_ l
def squeezeT (l : List Frm) (most : Int) : List Frm × Int := if checkT l ≠ 0 then ([], checkT l) else if most < 0 then ([], 2) else (sqF most 0 0 l, 0)
theorem sqF_len (most : Int) : ∀ (l : List Frm) (a w : Int), (sqF most a w l).length = l.length
 | [], _, _ => rfl
 | f :: l, a, w => by rw [sqF, List.length_cons, List.length_cons, sqF_len most l]
theorem sqF_long (most : Int) : ∀ (l : List Frm) (a w : Int), longB (sqF most a w l) = longB l
 | [], _, _ => rfl
 | f :: l, a, w => by
  have := sqF_long most l (a + min most (f.at_ - w)) f.at_
  unfold longB at this ⊢
  rw [sqF, List.any_cons, List.any_cons, this]
theorem sqF_timed (most : Int) (h0 : 0 ≤ most) : ∀ (l : List Frm) (a w : Int), a ≤ w → timedF w l = true → timedF a (sqF most a w l) = true
 | [], _, _, _, _ => rfl
 | f :: l, a, w, aw, ht => by
  rw [timedF, Bool.and_eq_true] at ht
  have t1 := of_decide_eq_true ht.1
  rw [sqF, timedF, Bool.and_eq_true]
  exact ⟨decide_eq_true ⟨by show a ≤ a + min most (f.at_ - w); omega, by show a + min most (f.at_ - w) ≤ 1099511627776; omega⟩, sqF_timed most h0 l (a + min most (f.at_ - w)) f.at_ (by omega) ht.2⟩
theorem sqF_again (most : Int) : ∀ (l : List Frm) (a w : Int), sqF most a a (sqF most a w l) = sqF most a w l
 | [], _, _ => rfl
 | f :: l, a, w => by
  rw [sqF, sqF]
  have e : a + min most (a + min most (f.at_ - w) - a) = a + min most (f.at_ - w) := by omega
  simp only
  rw [e, sqF_again most l]
theorem squeeze_again {l m : List Frm} {most : Int} (h : squeezeT l most = (m, 0)) : squeezeT m most = (m, 0) ∧ m = sqF most 0 0 l ∧ 0 ≤ most ∧ checkT l = 0 := by
 unfold squeezeT at h
 split at h
 ·rename_i ne
  simp only [Prod.mk.injEq] at h
  exact absurd h.2 ne
 rename_i ck
 split at h
 ·simp at h
 rename_i mo
 simp only [Prod.mk.injEq, and_true] at h
 have ck : checkT l = 0 := by omega
 obtain ⟨p1, p2, p3⟩ := check_parts ck
 subst h
 have ck2 : checkT (sqF most 0 0 l) = 0 := check_of (by rw [sqF_long]; exact p1) (by rw [sqF_len]; exact p2) (sqF_timed most (by omega) l 0 0 (Int.le_refl _) p3)
 refine ⟨?_, rfl, by omega, ck⟩
 unfold squeezeT
 rw [if_neg (by rw [ck2]; simp), if_neg mo, sqF_again]
/-! one behind the other -/
def longT : List (List Frm) → Nat → Bool
 | [], _ => false
 | t :: ts, n => manyB t || decide (16384 < n + t.length) || longT ts (n + t.length)
def joinF : List (List Frm) → List Frm → List Frm × Int
 | [], out => (out, 0)
 | t :: ts, out => if timedB t = false ∨ (t ≠ [] ∧ 1099511627776 - lastAt out < lastAt t) then ([], 301) else joinF ts (out ++ shiftL (lastAt out) t)
def joinT (ts : List (List Frm)) : List Frm × Int := if longT ts 0 = true then ([], 3) else joinF ts []
theorem last_app : ∀ (a : List Frm) (f : Frm) (l : List Frm), lastAt (a ++ f :: l) = lastAt (f :: l)
 | [], f, l => rfl
 | [x], f, l => rfl
 | x :: y :: a, f, l => last_app (y :: a) f l
theorem last_shift (b : Int) : ∀ (l : List Frm), l ≠ [] → lastAt (shiftL b l) = lastAt l + b
 | [], h => absurd rfl h
 | [f], _ => rfl
 | _ :: g :: l, _ => last_shift b (g :: l) (by simp)
theorem timed_last : ∀ (l : List Frm) (w : Int), timedF w l = true → l ≠ [] → w ≤ lastAt l ∧ lastAt l ≤ 1099511627776
 | [], _, _, h => absurd rfl h
 | [f], w, ht, _ => by
  rw [timedF, Bool.and_eq_true] at ht
  exact of_decide_eq_true ht.1
 | f :: g :: l, w, ht, _ => by
  rw [timedF, Bool.and_eq_true] at ht
  have t1 := of_decide_eq_true ht.1
  have := timed_last (g :: l) f.at_ ht.2 (by simp)
  exact ⟨Int.le_trans t1.1 this.1, this.2⟩
theorem timed_shift (b : Int) : ∀ (l : List Frm) (w : Int), timedF w l = true → (l ≠ [] → lastAt l + b ≤ 1099511627776) → timedF (w + b) (shiftL b l) = true
 | [], _, _, _ => rfl
 | f :: l, w, ht, hb => by
  rw [timedF, Bool.and_eq_true] at ht
  have t1 := of_decide_eq_true ht.1
  have hb := hb (by simp)
  have lf : f.at_ ≤ lastAt (f :: l) := by
   cases l with
   | nil => exact Int.le_refl _
   | cons g l => exact (timed_last (g :: l) f.at_ ht.2 (by simp)).1
  show timedF (w + b) (⟨f.at_ + b, f.bs⟩ :: shiftL b l) = true
  rw [timedF, Bool.and_eq_true]
  refine ⟨decide_eq_true ⟨by show w + b ≤ f.at_ + b; omega, by show f.at_ + b ≤ 1099511627776; omega⟩, timed_shift b l f.at_ ht.2 (fun ne => ?_)⟩
  cases l with
  | nil => exact absurd rfl ne
  | cons g l => exact hb
theorem timed_app : ∀ (a : List Frm) (w : Int) (l : List Frm), timedF w a = true → timedF (if a = [] then w else lastAt a) l = true → timedF w (a ++ l) = true
 | [], w, l, _, h => by simpa using h
 | [f], w, l, ha, h => by
  rw [timedF, Bool.and_eq_true] at ha
  show timedF w (f :: l) = true
  rw [timedF, Bool.and_eq_true]
  exact ⟨ha.1, h⟩
 | f :: g :: a, w, l, ha, h => by
  rw [timedF, Bool.and_eq_true] at ha
  show timedF w (f :: (g :: a ++ l)) = true
  rw [timedF, Bool.and_eq_true]
  exact ⟨ha.1, timed_app (g :: a) f.at_ l ha.2 h⟩
theorem timed_lower {w w' : Int} (h : w' ≤ w) : ∀ (l : List Frm), timedF w l = true → timedF w' l = true
 | [], _ => rfl
 | f :: l, ht => by
  rw [timedF, Bool.and_eq_true] at ht ⊢
  have := of_decide_eq_true ht.1
  exact ⟨decide_eq_true (by omega), ht.2⟩
theorem timed_join {out t : List Frm} (ho : timedF 0 out = true) (ht : timedB t = true) (le : t ≠ [] → lastAt t ≤ 1099511627776 - lastAt out) : timedF 0 (out ++ shiftL (lastAt out) t) = true := by
 refine timed_app out 0 _ ho ?_
 have s := timed_shift (lastAt out) t 0 ht (fun ne => by have := le ne; omega)
 rw [Int.zero_add] at s
 split
 ·rename_i z; subst z; exact s
 ·exact s
/-! what is shown at a time -/
end Go.Proofs.YtmaofighbpnbiaaGreatDoor
