/- What has changed between two rows of cells; a screen made poorer (plain; of no program). -/
import Derived.Test.YtkllilehdpdbdaaGreatDoorDfS
import Derived.Test.YtkllilehdpdbdaaGreatDoorStyR
namespace Go.Proofs.YtkllilehdpdbdaaGreatDoor
open Go.RowKit
set_option linter.unusedVariables false

def redC (d : Int) (c : Cel) : Cel := ⟨c.text, c.wide, reduceS c.st d⟩
def redL (l : List Cel) (d : Int) : List Cel := l.map (redC d)
def redS (s : Scr) (d : Int) : Scr := ⟨s.w, s.h, redL s.cells d, s.x, s.y, s.shown⟩

theorem sing_parts {a : Cel} (h : singC a = true) : a.wide = 1 ∧ oneB a.text = some 1 ∧ countS a.st = a.st := by
  unfold singC at h
  simp only [Bool.and_eq_true, decide_eq_true_eq] at h
  exact ⟨h.1.1, h.1.2, h.2⟩
theorem pair_parts {a b : Cel} (h : pairC a b = true) : a.wide = 2 ∧ oneB a.text = some 2 ∧ b.wide = 0 ∧ b.text = ⟨#[]⟩ ∧ a.st = b.st ∧ countS a.st = a.st := by
  unfold pairC at h
  simp only [Bool.and_eq_true, decide_eq_true_eq] at h
  obtain ⟨⟨⟨⟨⟨h1, h2⟩, h3⟩, h4⟩, h5⟩, h6⟩ := h
  exact ⟨h1, h2, h3, h4, h5, h6⟩
theorem sing_mk {a : Cel} (h1 : a.wide = 1) (h2 : oneB a.text = some 1) (h3 : countS a.st = a.st) : singC a = true := by
  unfold singC
  rw [h1, h2, h3]
  simp
theorem pair_mk {a b : Cel} (h1 : a.wide = 2) (h2 : oneB a.text = some 2) (h3 : b.wide = 0) (h4 : b.text = ⟨#[]⟩) (h5 : a.st = b.st) (h6 : countS a.st = a.st) : pairC a b = true := by
  unfold pairC
  rw [h1, h2, h3, h4, ← h5, h6]
  simp
theorem wide_not_pair {a b : Cel} (h : a.wide ≠ 2) : pairC a b = false := by
  cases e : pairC a b with
  | false => rfl
  | true => exact absurd (pair_parts e).1 h
theorem row_one (a : Cel) : rowR [a] = singC a := rfl
theorem row_two (a b : Cel) (r : List Cel) : rowR (a :: b :: r) = if pairC a b = true then rowR r else if singC a = true then rowR (b :: r) else false := by
  conv => lhs; unfold rowR
/-- a right row begins with a pair or a single -/
theorem row_cons {a : Cel} {l : List Cel} (h : rowR (a :: l) = true) : (∃ b r, l = b :: r ∧ pairC a b = true ∧ rowR r = true) ∨ (singC a = true ∧ rowR l = true) := by
  cases l with
  | nil => exact Or.inr ⟨h, rfl⟩
  | cons b r =>
    rw [row_two] at h
    by_cases p : pairC a b = true
    · rw [if_pos p] at h; exact Or.inl ⟨b, r, rfl, p, h⟩
    · rw [if_neg p] at h
      by_cases s : singC a = true
      · rw [if_pos s] at h; exact Or.inr ⟨s, h⟩
      · rw [if_neg s] at h; cases h
theorem row_sing {a : Cel} {l : List Cel} (h : singC a = true) (hl : rowR l = true) : rowR (a :: l) = true := by
  cases l with
  | nil => exact h
  | cons b r =>
    rw [row_two, if_neg (by rw [wide_not_pair (by rw [(sing_parts h).1]; decide)]; decide), if_pos h]
    exact hl
theorem row_pair {a b : Cel} {l : List Cel} (h : pairC a b = true) (hl : rowR l = true) : rowR (a :: b :: l) = true := by
  rw [row_two, if_pos h]
  exact hl
/-- the same, told by width -/
theorem row_wide {a : Cel} {l : List Cel} (h : rowR (a :: l) = true) : (a.wide = 2 ∧ ∃ b r, l = b :: r ∧ b.wide = 0 ∧ rowR r = true) ∨ (a.wide = 1 ∧ rowR l = true) := by
  rcases row_cons h with ⟨b, r, e, p, q⟩ | ⟨s, q⟩
  · exact Or.inl ⟨(pair_parts p).1, b, r, e, (pair_parts p).2.2.1, q⟩
  · exact Or.inr ⟨(sing_parts s).1, q⟩
theorem row_ind {P : List Cel → Prop} (h0 : P []) (h1 : ∀ a l, singC a = true → rowR l = true → P l → P (a :: l)) (h2 : ∀ a b l, pairC a b = true → rowR l = true → P l → P (a :: b :: l)) : ∀ n l, l.length ≤ n → rowR l = true → P l := by
  intro n
  induction n with
  | zero =>
    intro l hl _
    have e : l = [] := List.length_eq_zero_iff.1 (by omega)
    subst e
    exact h0
  | succ n ih =>
    intro l hl h
    cases l with
    | nil => exact h0
    | cons a l =>
      rcases row_cons h with ⟨b, r, e, p, q⟩ | ⟨s, q⟩
      · subst e
        exact h2 a b r p q (ih r (by simp at hl; omega) q)
      · exact h1 a l s q (ih l (by simp at hl; omega) q)
theorem row_app (a b : List Cel) (ha : rowR a = true) (hb : rowR b = true) : rowR (a ++ b) = true :=
  row_ind (P := fun l => rowR (l ++ b) = true) hb (fun a l s _ h => row_sing s h) (fun a c l p _ h => row_pair p h) a.length a (Nat.le_refl _) ha

theorem count_reduce (s : Sty) (d : Int) : countS (reduceS s d) = reduceS s d := by
  unfold countS reduceS
  simp only
  rw [inSty_pl_eq _ (poor_in _ d (inSty_pl _)), inSty_pl_eq _ (poor_in _ d (inSty_pl _))]
theorem row_red (l : List Cel) (d : Int) (h : rowR l = true) : rowR (redL l d) = true :=
  row_ind (P := fun l => rowR (redL l d) = true) rfl
    (fun a l s _ q => row_sing (sing_mk (a := redC d a) (sing_parts s).1 (sing_parts s).2.1 (count_reduce _ _)) q)
    (fun a b l p _ q => row_pair (pair_mk (a := redC d a) (b := redC d b) (pair_parts p).1 (pair_parts p).2.1 (pair_parts p).2.2.1 (pair_parts p).2.2.2.1 (by show reduceS a.st d = reduceS b.st d; rw [(pair_parts p).2.2.2.2.1]) (count_reduce _ _)) q)
    l.length l (Nat.le_refl _) h
theorem row_count (l : List Cel) (h : rowR l = true) : ∀ c ∈ l, countS c.st = c.st :=
  row_ind (P := fun l => ∀ c ∈ l, countS c.st = c.st) (fun c hc => by cases hc)
    (fun a l s _ q c hc => by
      rcases List.mem_cons.1 hc with rfl | hc
      · exact (sing_parts s).2.2
      · exact q c hc)
    (fun a b l p _ q c hc => by
      have pp := pair_parts p
      rcases List.mem_cons.1 hc with rfl | hc
      · exact pp.2.2.2.2.2
      · rcases List.mem_cons.1 hc with rfl | hc
        · rw [← pp.2.2.2.2.1]; exact pp.2.2.2.2.2
        · exact q c hc)
    l.length l (Nat.le_refl _) h
theorem red_twice (l : List Cel) (d : Int) : redL (redL l d) d = redL l d := by
  unfold redL
  rw [List.map_map]
  refine List.map_congr_left fun c _ => ?_
  show (⟨c.text, c.wide, reduceS (reduceS c.st d) d⟩ : Cel) = ⟨c.text, c.wide, reduceS c.st d⟩
  rw [reduce_twice]
theorem red_full (l : List Cel) (d : Int) (hd : 3 ≤ d) (h : rowR l = true) : redL l d = l := by
  unfold redL
  refine (List.map_congr_left (g := id) fun c hc => ?_).trans (List.map_id l)
  show (⟨c.text, c.wide, reduceS c.st d⟩ : Cel) = c
  rw [reduce_full _ d hd, row_count l h c hc]

/-- the cells of a right screen are right rows, one behind the other -/
theorem rows_join (L : List Cel) (W : Nat) : ∀ n, (∀ y, y < n → rowR ((L.drop (y * W)).take W) = true) → rowR (L.take (n * W)) = true := by
  intro n
  induction n with
  | zero => intro _; simp [rowR]
  | succ n ih =>
    intro h
    rw [Nat.succ_mul, List.take_add]
    exact row_app _ _ (ih fun y hy => h y (by omega)) (h n (by omega))
theorem right_parts {s : Scr} (h : rightS s = true) : sizedI s.w s.h = true ∧ (s.cells.length : Int) = s.w * s.h ∧ (∀ y, y < s.h.toNat → rowR (rowAt s y) = true) ∧ cursR s = true := by
  unfold rightS at h
  simp only [Bool.and_eq_true, decide_eq_true_eq, List.all_eq_true, List.mem_range] at h
  exact ⟨h.1.1.1, h.1.1.2, h.1.2, h.2⟩
theorem right_mk {s : Scr} (h1 : sizedI s.w s.h = true) (h2 : (s.cells.length : Int) = s.w * s.h) (h3 : ∀ y, y < s.h.toNat → rowR (rowAt s y) = true) (h4 : cursR s = true) : rightS s = true := by
  unfold rightS
  simp only [Bool.and_eq_true, decide_eq_true_eq, List.all_eq_true, List.mem_range]
  exact ⟨⟨⟨h1, h2⟩, h3⟩, h4⟩
theorem sized_parts {w h : Int} (hs : sizedI w h = true) : 0 ≤ w ∧ w ≤ 4096 ∧ 0 ≤ h ∧ h ≤ 4096 ∧ w * h ≤ 1048576 := by
  unfold sizedI at hs
  simp only [Bool.and_eq_true, decide_eq_true_eq] at hs
  omega
theorem right_row {s : Scr} (h : rightS s = true) : rowR s.cells = true := by
  obtain ⟨h1, h2, h3, _⟩ := right_parts h
  obtain ⟨a, _, b, _, _⟩ := sized_parts h1
  have e := rows_join s.cells s.w.toNat s.h.toNat h3
  have l : s.cells.length = s.h.toNat * s.w.toNat := by
    have : ((s.h.toNat * s.w.toNat : Nat) : Int) = s.w * s.h := by
      rw [Int.natCast_mul, Int.toNat_of_nonneg a, Int.toNat_of_nonneg b, Int.mul_comm]
    omega
  rwa [← l, List.take_length] at e
theorem right_red {s : Scr} (d : Int) (h : rightS s = true) : rightS (redS s d) = true := by
  obtain ⟨h1, h2, h3, h4⟩ := right_parts h
  refine right_mk h1 (by show ((redL s.cells d).length : Int) = _; unfold redL; rw [List.length_map]; exact h2) (fun y hy => ?_) h4
  have e : rowAt (redS s d) y = redL (rowAt s y) d := by
    show ((redL s.cells d).drop _).take _ = _
    unfold redL rowAt
    rw [← List.map_drop, ← List.map_take]
    rfl
  rw [e]
  exact row_red _ d (h3 y hy)

/-- the units of the second list that are not the same in the first one: each with its place and how many cells it has -/
def diffU : Nat → List Cel → List Cel → List (Nat × Nat)
  | i, x :: x' :: xs, y :: y' :: ys => if y.wide = 2 then (if x = y ∧ x' = y' then [] else [(i, 2)]) ++ diffU (i + 2) xs ys else (if x = y then [] else [(i, 1)]) ++ diffU (i + 1) (x' :: xs) (y' :: ys)
  | i, [x], [y] => if x = y then [] else [(i, 1)]
  | _, _, _ => []
theorem diffU_nil (i : Nat) (l : List Cel) : diffU i l [] = [] := by
  cases l with
  | nil => rfl
  | cons a l => cases l <;> rfl
theorem diffU_pair (i : Nat) (x x' y y' : Cel) (xs ys : List Cel) (h : y.wide = 2) : diffU i (x :: x' :: xs) (y :: y' :: ys) = (if x = y ∧ x' = y' then [] else [(i, 2)]) ++ diffU (i + 2) xs ys := by
  conv => lhs; unfold diffU
  rw [if_pos h]
theorem diffU_sing (i : Nat) (x y : Cel) (xs ys : List Cel) (h : y.wide ≠ 2) (hl : xs.length = ys.length) : diffU i (x :: xs) (y :: ys) = (if x = y then [] else [(i, 1)]) ++ diffU (i + 1) xs ys := by
  cases xs with
  | nil =>
    cases ys with
    | nil => simp [diffU]
    | cons _ _ => cases hl
  | cons a xs =>
    cases ys with
    | nil => cases hl
    | cons b ys =>
      conv => lhs; unfold diffU
      rw [if_neg h]
theorem diffU_same (l : List Cel) (h : rowR l = true) : ∀ i, diffU i l l = [] :=
  row_ind (P := fun l => ∀ i, diffU i l l = []) (fun i => rfl)
    (fun a l s _ q i => by rw [diffU_sing i a a l l (by rw [(sing_parts s).1]; decide) rfl, if_pos rfl, q]; rfl)
    (fun a b l p _ q i => by rw [diffU_pair i a b a b l l (pair_parts p).1, if_pos ⟨rfl, rfl⟩, q]; rfl)
    l.length l (Nat.le_refl _) h
theorem diffU_none (l : List Cel) (h : rowR l = true) : ∀ i k, k.length = l.length → diffU i k l = [] → k = l :=
  row_ind (P := fun l => ∀ i k, k.length = l.length → diffU i k l = [] → k = l) (fun i k e _ => List.length_eq_zero_iff.1 e)
    (fun a l s _ q i k e z => by
      cases k with
      | nil => cases e
      | cons b k =>
        simp only [List.length_cons, Nat.add_right_cancel_iff] at e
        rw [diffU_sing i b a k l (by rw [(sing_parts s).1]; decide) e] at z
        have z2 := List.append_eq_nil_iff.1 z
        by_cases c : b = a
        · rw [c, q _ k e z2.2]
        · rw [if_neg c] at z2; cases z2.1)
    (fun a b l p _ q i k e z => by
      cases k with
      | nil => cases e
      | cons c k =>
        cases k with
        | nil => cases e
        | cons d k =>
          simp only [List.length_cons, Nat.add_right_cancel_iff] at e
          rw [diffU_pair i c d a b k l (pair_parts p).1] at z
          have z2 := List.append_eq_nil_iff.1 z
          by_cases g : c = a ∧ d = b
          · rw [g.1, g.2, q _ k e z2.2]
          · rw [if_neg g] at z2; cases z2.1)
    l.length l (Nat.le_refl _) h
/-- the cells of some units -/
def chgL (l : List (Nat × Nat)) : List Int := l.flatMap fun p => (List.range p.2).map fun k => ((p.1 + k : Nat) : Int)
theorem chg_app (a b : List (Nat × Nat)) : chgL (a ++ b) = chgL a ++ chgL b := List.flatMap_append
theorem chg_one (i : Nat) : chgL [(i, 1)] = [(i : Int)] := by simp [chgL, List.range_succ]
theorem chg_two (i : Nat) : chgL [(i, 2)] = [(i : Int), ((i + 1 : Nat) : Int)] := by simp [chgL, List.range_succ]
theorem chg_range (l : List Cel) (h : rowR l = true) : ∀ i k, k.length = l.length → (∀ x ∈ chgL (diffU i k l), (i : Int) ≤ x ∧ x < (i : Int) + l.length) ∧ (chgL (diffU i k l)).Pairwise (· < ·) :=
  row_ind (P := fun l => ∀ i k, k.length = l.length → (∀ x ∈ chgL (diffU i k l), (i : Int) ≤ x ∧ x < (i : Int) + l.length) ∧ (chgL (diffU i k l)).Pairwise (· < ·))
    (fun i k _ => by rw [diffU_nil]; exact ⟨(fun x hx => by cases hx), List.Pairwise.nil⟩)
    (fun a l s _ q i k e => by
      cases k with
      | nil => cases e
      | cons b k =>
        simp only [List.length_cons, Nat.add_right_cancel_iff] at e
        rw [diffU_sing i b a k l (by rw [(sing_parts s).1]; decide) e]
        obtain ⟨q1, q2⟩ := q (i + 1) k e
        by_cases c : b = a
        · rw [if_pos c]
          refine ⟨fun x hx => ?_, q2⟩
          have := q1 x hx
          simp only [List.length_cons]
          omega
        · rw [if_neg c, chg_app, chg_one]
          refine ⟨fun x hx => ?_, ?_⟩
          · simp only [List.length_cons]
            rcases List.mem_cons.1 hx with rfl | hx
            · omega
            · have := q1 x hx
              omega
          · exact List.pairwise_cons.2 ⟨fun x hx => by have := q1 x hx; omega, q2⟩)
    (fun a b l p _ q i k e => by
      cases k with
      | nil => cases e
      | cons c k =>
        cases k with
        | nil => cases e
        | cons d k =>
          simp only [List.length_cons, Nat.add_right_cancel_iff] at e
          rw [diffU_pair i c d a b k l (pair_parts p).1]
          obtain ⟨q1, q2⟩ := q (i + 2) k e
          by_cases g : c = a ∧ d = b
          · rw [if_pos g]
            refine ⟨fun x hx => ?_, q2⟩
            have := q1 x hx
            simp only [List.length_cons]
            omega
          · rw [if_neg g, chg_app, chg_two]
            refine ⟨fun x hx => ?_, ?_⟩
            · simp only [List.length_cons]
              rcases List.mem_cons.1 hx with rfl | hx
              · omega
              · rcases List.mem_cons.1 hx with rfl | hx
                · omega
                · have := q1 x hx
                  omega
            · refine List.pairwise_cons.2 ⟨fun x hx => ?_, List.pairwise_cons.2 ⟨fun x hx => by have := q1 x hx; omega, q2⟩⟩
              rcases List.mem_cons.1 hx with rfl | hx
              · omega
              · have := q1 x hx; omega)
    l.length l (Nat.le_refl _) h
end Go.Proofs.YtkllilehdpdbdaaGreatDoor
