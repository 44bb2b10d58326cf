/- How long a frame's bytes are (plain). -/
import Derived.Test.YtkllilehdpdbdaaDoorDgG
namespace Go.Proofs.YtkllilehdpdbdaaDoor
open Go.RowKit
set_option linter.unusedVariables false

def totS (L : List Cel) : Nat := (L.map fun c => c.text.size).sum
theorem totS_cons (a : Cel) (L : List Cel) : totS (a :: L) = a.text.size + totS L := by simp [totS]
theorem totS_mem {a : Cel} {L : List Cel} (h : a ∈ L) : a.text.size ≤ totS L := by
  induction L with
  | nil => cases h
  | cons b L ih =>
    rw [totS_cons]
    rcases List.mem_cons.1 h with rfl | h
    · omega
    · have := ih h; omega
theorem totS_getD (L : List Cel) (i : Nat) : (L.getD i celD).text.size ≤ totS L := by
  rcases Nat.lt_or_ge i L.length with h | h
  · rw [List.getD_eq_getElem?_getD, List.getElem?_eq_getElem h]
    exact totS_mem (List.getElem_mem h)
  · rw [List.getD_eq_getElem?_getD, List.getElem?_eq_none h]
    exact Nat.zero_le _
theorem totS_red (L : List Cel) (d : Int) : totS (redL L d) = totS L := by
  unfold totS redL
  rw [List.map_map]
  rfl
def sumT (L : List Cel) (l : List (Nat × Nat)) : Nat := (l.map fun p => (L.getD p.1 celD).text.size).sum
theorem sumT_app (L : List Cel) (a b : List (Nat × Nat)) : sumT L (a ++ b) = sumT L a + sumT L b := by simp [sumT]
theorem sumT_one (L : List Cel) (i n : Nat) : sumT L [(i, n)] = (L.getD i celD).text.size := by simp [sumT]
theorem drop_getD {L l : List Cel} {a : Cel} {i : Nat} (h : L.drop i = a :: l) : L.getD i celD = a := by
  have := congrArg (fun m => m.getD 0 celD) h
  simpa [List.getD_eq_getElem?_getD, List.getElem?_drop] using this
theorem diffU_room (l : List Cel) (h : rowR l = true) : ∀ i k L, k.length = l.length → L.drop i = l → (diffU i k l).length ≤ l.length ∧ sumT L (diffU i k l) ≤ totS l ∧ ∀ p ∈ diffU i k l, i ≤ p.1 ∧ p.1 + p.2 ≤ i + l.length ∧ (p.2 = 1 ∨ p.2 = 2) :=
  row_ind (P := fun l => ∀ i k L, k.length = l.length → L.drop i = l → (diffU i k l).length ≤ l.length ∧ sumT L (diffU i k l) ≤ totS l ∧ ∀ p ∈ diffU i k l, i ≤ p.1 ∧ p.1 + p.2 ≤ i + l.length ∧ (p.2 = 1 ∨ p.2 = 2))
    (fun i k L _ _ => by rw [diffU_nil]; exact ⟨Nat.le_refl _, Nat.zero_le _, fun p hp => by cases hp⟩)
    (fun a l s _ q i k L e hL => by
      cases k with
      | nil => cases e
      | cons b k =>
        simp only [List.length_cons, Nat.add_right_cancel_iff] at e
        rw [diffU_sing i b a k l (by rw [(sing_parts s).1]; decide) e]
        obtain ⟨q1, q2, q3⟩ := q (i + 1) k L e (by rw [← List.drop_drop, hL]; rfl)
        have ga := drop_getD hL
        rw [totS_cons, List.length_append, sumT_app]
        simp only [List.length_cons]
        by_cases c : b = a
        · rw [if_pos c]
          refine ⟨by simp; omega, by simp [sumT] at *; omega, fun p hp => ?_⟩
          have := q3 p (by simpa using hp)
          omega
        · rw [if_neg c, sumT_one, ga]
          refine ⟨by simp; omega, by omega, fun p hp => ?_⟩
          rcases List.mem_cons.1 hp with rfl | hp
          · simp
          · have := q3 p hp
            omega)
    (fun a b l p _ q i k L e hL => by
      cases k with
      | nil => cases e
      | cons c k =>
        cases k with
        | nil => cases e
        | cons d k =>
          simp only [List.length_cons, Nat.add_right_cancel_iff] at e
          rw [diffU_pair i c d a b k l (pair_parts p).1]
          obtain ⟨q1, q2, q3⟩ := q (i + 2) k L e (by rw [← List.drop_drop, hL]; rfl)
          have ga := drop_getD hL
          rw [totS_cons, totS_cons, List.length_append, sumT_app]
          simp only [List.length_cons]
          by_cases g : c = a ∧ d = b
          · rw [if_pos g]
            refine ⟨by simp; omega, by simp [sumT] at *; omega, fun p hp => ?_⟩
            have := q3 p (by simpa using hp)
            omega
          · rw [if_neg g, sumT_one, ga]
            refine ⟨by simp; omega, by omega, fun p hp => ?_⟩
            rcases List.mem_cons.1 hp with rfl | hp
            · simp
            · have := q3 p hp
              omega)
    l.length l (Nat.le_refl _) h
theorem sumT_pre {L : List Cel} {a b : List (Nat × Nat)} (h : a <+: b) : sumT L a ≤ sumT L b := by
  obtain ⟨r, rfl⟩ := h
  rw [sumT_app]
  omega

theorem unitT_x (W : Int) (t : Tel) (i n : Nat) (c : Cel) : (unitT W t i n c).x = (i : Int) % W + n := by
  unfold unitT put1
  show (turn1 _ _).x + (n : Int) = _
  have e : ∀ t u, (turn1 t u).x = t.x := fun t u => by unfold turn1 seqT; split <;> rfl
  rw [e]
  unfold move1
  by_cases g : goB t ((i : Int) % W) ((i : Int) / W) c.st c.text = true
  · rw [if_pos g]; rfl
  · rw [if_neg g]
    have g : goB t ((i : Int) % W) ((i : Int) / W) c.st c.text = false := by simpa using g
    unfold goB at g
    simp only [Bool.or_eq_false_iff, decide_eq_false_iff_not, Decidable.not_not] at g
    rw [g.1.1.2]
theorem unitT_out (W : Int) (t : Tel) (i n : Nat) (c : Cel) (w0 : 1 ≤ W) (w1 : W ≤ 4096) (hi : i ≤ 2000000) : (unitT W t i n c).out.size ≤ t.out.size + 600 + c.text.size := by
  have X0 : 0 ≤ (i : Int) % W := Int.emod_nonneg _ (by omega)
  have X1 : (i : Int) % W < W := Int.emod_lt_of_pos _ (by omega)
  have Y0 : 0 ≤ (i : Int) / W := Int.ediv_nonneg (by omega) (by omega)
  have Y1 : (i : Int) / W ≤ (i : Int) := Int.ediv_le_self _ (by omega)
  have a := moveB_size ((i : Int) % W) ((i : Int) / W) (by omega) (by omega) (by omega) (by omega)
  have b := turnB_size t.st c.st
  unfold unitT put1
  show ((turn1 (move1 t ((i : Int) % W) ((i : Int) / W) c.st c.text) (turnB t.st c.st)).out ++ c.text).size ≤ _
  rw [ByteArray.size_append]
  have e1 : ∀ u : ByteArray, (turn1 (move1 t ((i : Int) % W) ((i : Int) / W) c.st c.text) u).out.size ≤ t.out.size + 100 + u.size := fun u => by
    have e2 : (move1 t ((i : Int) % W) ((i : Int) / W) c.st c.text).out.size ≤ t.out.size + 100 := by
      unfold move1
      split
      · show (t.out ++ moveB ((i : Int) % W) ((i : Int) / W)).size ≤ _
        rw [ByteArray.size_append]; omega
      · omega
    unfold turn1
    split
    · omega
    · show ((move1 t ((i : Int) % W) ((i : Int) / W) c.st c.text).out ++ u).size ≤ _
      rw [ByteArray.size_append]; omega
  have := e1 (turnB t.st c.st)
  omega
theorem unitsT_cons (W : Int) (L : List Cel) (t : Tel) (p : Nat × Nat) (l : List (Nat × Nat)) : unitsT W L t (p :: l) = unitsT W L (unitT W t p.1 p.2 (L.getD p.1 celD)) l := rfl
theorem unitsT_bounds (W : Int) (L : List Cel) (w0 : 1 ≤ W) (w1 : W ≤ 4096) (M : Nat) (hM : totS L ≤ M) : ∀ (pre : List (Nat × Nat)) (t : Tel), (∀ p ∈ pre, p.1 ≤ 2000000 ∧ (p.2 = 1 ∨ p.2 = 2)) → t.text.size ≤ M → 0 ≤ t.x → t.x ≤ 5000 →
    (unitsT W L t pre).out.size ≤ t.out.size + 600 * pre.length + sumT L pre ∧ (unitsT W L t pre).text.size ≤ M ∧ 0 ≤ (unitsT W L t pre).x ∧ (unitsT W L t pre).x ≤ 5000
  | [], t, _, h1, h2, h3 => ⟨by simp [unitsT, sumT], h1, h2, h3⟩
  | p :: pre, t, hp, h1, h2, h3 => by
    have hp0 := hp p (by simp)
    have X0 : 0 ≤ (p.1 : Int) % W := Int.emod_nonneg _ (by omega)
    have X1 : (p.1 : Int) % W < W := Int.emod_lt_of_pos _ (by omega)
    have gx := unitT_x W t p.1 p.2 (L.getD p.1 celD)
    have go := unitT_out W t p.1 p.2 (L.getD p.1 celD) w0 w1 hp0.1
    have gt : (unitT W t p.1 p.2 (L.getD p.1 celD)).text.size ≤ M := Nat.le_trans (totS_getD L p.1) hM
    have ih := unitsT_bounds W L w0 w1 M hM pre (unitT W t p.1 p.2 (L.getD p.1 celD)) (fun q hq => hp q (by simp [hq])) gt (by rw [gx]; omega) (by rw [gx]; omega)
    rw [unitsT_cons]
    have es : sumT L (p :: pre) = (L.getD p.1 celD).text.size + sumT L pre := by simp [sumT]
    rw [es]
    simp only [List.length_cons]
    exact ⟨by omega, ih.2⟩
theorem clear_size : clearB.size = 22 := rfl
theorem show_size : showB.size = 6 := rfl
theorem hide_size : hideB.size = 6 := rfl
/-- the state that a frame's units leave -/
def midT (x : Wri) (r : Scr) : Tel := unitsT r.w r.cells (start1 x (newB x r)) (diffU 0 (from1 x (newB x r) r) r.cells)
theorem from1_len {x : Wri} {r : Scr} (hr : rightS r = true) (hl : x.told = true → rightS x.last = true) : (from1 x (newB x r) r).length = r.cells.length := by
  unfold from1
  split
  · simp
  · rename_i g
    have g : newB x r = false := by simpa using g
    unfold newB at g
    simp only [Bool.or_eq_false_iff, Bool.not_eq_false', decide_eq_false_iff_not, Decidable.not_not] at g
    have h1 := (right_parts hr).2.1
    have h2 := (right_parts (hl g.1.1)).2.1
    rw [g.1.2, g.2] at h2
    omega
theorem start1_le (x : Wri) (g : Bool) (ht : x.tel.text.size ≤ 400000000000) (h0 : 0 ≤ x.tel.x) (h1 : x.tel.x ≤ 5000) : (start1 x g).out.size ≤ 22 ∧ (start1 x g).text.size ≤ 400000000000 ∧ 0 ≤ (start1 x g).x ∧ (start1 x g).x ≤ 5000 := by
  unfold start1
  cases g with
  | true => exact ⟨by rw [if_pos rfl]; exact Nat.le_refl 22, by rw [if_pos rfl]; exact Nat.zero_le _, by rw [if_pos rfl]; exact Int.le_refl 0, by rw [if_pos rfl]; show (0 : Int) ≤ 5000; omega⟩
  | false => rw [if_neg (by decide)]; exact ⟨Nat.zero_le _, ht, h0, h1⟩
/-- the bounds ahead of each unit -/
theorem pre_bounds {x : Wri} {r : Scr} (hr : rightS r = true) (hl : x.told = true → rightS x.last = true) (ht : x.tel.text.size ≤ 400000000000) (h0 : 0 ≤ x.tel.x) (h1 : x.tel.x ≤ 5000) (hs : totS r.cells ≤ 1000000000)
    {pre : List (Nat × Nat)} (hp : pre <+: diffU 0 (from1 x (newB x r) r) r.cells) (hw : 1 ≤ r.w ∨ pre = []) :
    (unitsT r.w r.cells (start1 x (newB x r)) pre).out.size ≤ 2000000000 ∧ (unitsT r.w r.cells (start1 x (newB x r)) pre).text.size ≤ 400000000000 ∧ 0 ≤ (unitsT r.w r.cells (start1 x (newB x r)) pre).x ∧ (unitsT r.w r.cells (start1 x (newB x r)) pre).x ≤ 5000 := by
  obtain ⟨s1, s2, s3, s4⟩ := start1_le x (newB x r) ht h0 h1
  have len := from1_len hr hl
  obtain ⟨r1, r2, _⟩ := right_parts hr
  have sz := sized_parts r1
  obtain ⟨q1, q2, q3⟩ := diffU_room r.cells (right_row hr) 0 _ r.cells len rfl
  rcases hw with hw | rfl
  · have b := unitsT_bounds r.w r.cells hw sz.2.1 400000000000 (by omega) pre (start1 x (newB x r)) (fun p hp' => by
      obtain ⟨_, a, c⟩ := q3 p (hp.subset hp')
      exact ⟨by omega, c⟩) s2 s3 s4
    have lp := hp.length_le
    have sp := sumT_pre (L := r.cells) hp
    refine ⟨?_, b.2⟩
    have := b.1
    omega
  · exact ⟨by show (start1 x (newB x r)).out.size ≤ _; omega, s2, s3, s4⟩
end Go.Proofs.YtkllilehdpdbdaaDoor
