/- What is shown stays right (plain). -/
import Derived.Test.YtkllilehdpdbdaaGreatDoorVtG
namespace Go.Proofs.YtkllilehdpdbdaaGreatDoor
open Go.RowKit
set_option linter.unusedVariables false
set_option linter.unusedSimpArgs false

theorem one_space : oneB ⟨#[32]⟩ = some 1 := by decide +kernel
theorem blk_sing (s : Sty) : SingOk (blkS s) := ⟨count_count s, rfl, one_space⟩
theorem blank_sing (t : Trm) : SingOk t.blank := blk_sing _
/-- all that is shown, and may be -/
structure Good (t : Trm) : Prop where
  grid : Grid t.w.toNat t.cells.length t.cell
  away : Grid t.w.toNat t.away.length (fun i => t.away.getD i celD)
  st : countS t.cur.st = t.cur.st
  sv : countS t.sav.st = t.sav.st
theorem Good.same {t t' : Trm} (h : Good t) (e1 : t'.w = t.w) (e2 : t'.cells = t.cells) (e3 : t'.away = t.away) (e4 : countS t'.cur.st = t'.cur.st) (e5 : countS t'.sav.st = t'.sav.st) : Good t' := by
  refine ⟨?_, ?_, e4, e5⟩
  · have : t'.cell = t.cell := by funext i; unfold Trm.cell; rw [e2]
    rw [e1, e2, this]; exact h.grid
  · rw [e1, e3]; exact h.away
theorem Good.cw {t t' : Trm} (h : Good t) (c : Cw t t') (g : Grid t.w.toNat t.cells.length t'.cell) : Good t' := by
  refine ⟨by rw [c.w, c.cl]; exact g, ?_, by rw [c.cur]; exact h.st, ?_⟩
  · have : t'.away = t.away := by rw [c.eq]
    rw [c.w, this]; exact h.away
  · have : t'.sav = t.sav := by rw [c.eq]
    rw [this]; exact h.sv

theorem cell_put (t : Trm) (i : Nat) (c : Cel) (j : Nat) (hi : i < t.cells.length) : (putT t i c).cell j = if j = i then c else t.cell j := by
  split
  · rename_i e; subst e; exact cell_set t j c hi
  · rename_i e; exact cell_other t j i c (fun z => e z.symm)
theorem cell_fill (t : Trm) (f : Nat) : ∀ (n j : Nat), f + n ≤ t.cells.length → (fillT t f n).cell j = if f ≤ j ∧ j < f + n then t.blank else t.cell j
  | 0, j, h => by rw [if_neg (by omega)]; rfl
  | n + 1, j, h => by
    have c := cw_fill t f n
    have cl := c.cl
    have cc := c.cur
    show (putT (fillT t f n) (f + n) t.blank).cell j = _
    rw [cell_put _ _ _ _ (by omega), cell_fill t f n j (by omega)]
    by_cases e : j = f + n
    · rw [if_pos e, if_pos (by omega)]
    · rw [if_neg e]
      by_cases e2 : f ≤ j ∧ j < f + n
      · rw [if_pos e2, if_pos (by omega)]
      · rw [if_neg e2, if_neg (by omega)]
theorem cell_mark (t : Trm) (f : Nat) (j : Nat) : ∀ n, (markT t f n).cell j = t.cell j
  | 0 => rfl
  | n + 1 => cell_mark t f j n
theorem cell_part (t : Trm) (f : Nat) (l : List Cel) (j : Nat) (h : f + l.length ≤ t.cells.length) : (partT t f l).cell j = if f ≤ j ∧ j < f + l.length then l.getD (j - f) celD else t.cell j := by
  unfold partT Trm.cell
  simp only [List.getD_eq_getElem?_getD]
  have l1 : (List.take f t.cells).length = f := by rw [List.length_take]; omega
  by_cases a : j < f
  · rw [if_neg (by omega), List.append_assoc, List.getElem?_append_left (by omega), List.getElem?_take_of_lt a]
  · by_cases b : j < f + l.length
    · rw [if_pos (by omega), List.append_assoc, List.getElem?_append_right (by omega), l1, List.getElem?_append_left (by omega)]
    · rw [if_neg (by omega), List.getElem?_append_right (by rw [List.length_append]; omega), List.length_append, l1, List.getElem?_drop]
      congr 2
      omega
theorem up_get (l : List Cel) (k j : Nat) (hk : k ≤ l.length) (hj : j < l.length - k) : (upL' l k).getD j celD = l.getD (j + k) celD := by
  unfold upL'
  simp only [List.getD_eq_getElem?_getD]
  rw [List.getElem?_append_left (by rw [List.length_drop]; omega), List.getElem?_drop, Nat.add_comm]
theorem down_get (l : List Cel) (k j : Nat) (hk : k ≤ l.length) (hj : k ≤ j) (hl : j < l.length) : (downL' l k).getD j celD = l.getD (j - k) celD := by
  unfold downL'
  simp only [List.getD_eq_getElem?_getD]
  have l1 : (List.take k l).length = k := by rw [List.length_take]; omega
  rw [List.getElem?_append_right (by omega), l1, List.getElem?_take_of_lt (by omega)]
/-- what split leaves: right, no pair over that border, no new pair over another -/
structure Splits (t u : Trm) (b : Nat) : Prop where
  good : Good u
  cw : Cw t u
  at_ : Cb t.cells.length u.cell b
  keep : ∀ j, Cb t.cells.length t.cell j → Cb t.cells.length u.cell j
theorem mod_row {w : Nat} (y x : Nat) : (y * w + x) % w = x % w := by rw [Nat.add_comm, Nat.add_mul_mod_self_right]
theorem good_split {t : Trm} (h : Good t) (f : Fine t) (x y : Int) (x0 : 0 ≤ x) (x1 : x ≤ t.w) (y0 : 0 ≤ y) (y1 : y < t.h) : Splits t (splitT t x y) (y * t.w + x).toNat := by
  have r := f.row y0 y1
  have cl := f.cl
  have w0 := f.w0
  have e : (y * t.w + x).toNat = y.toNat * t.w.toNat + x.toNat := by
    obtain ⟨a, rfl⟩ := Int.eq_ofNat_of_zero_le y0
    obtain ⟨b, hb⟩ := Int.eq_ofNat_of_zero_le w0
    rw [hb]
    have : (a : Int) * (b : Int) = ((a * b : Nat) : Int) := by rw [Int.natCast_mul]
    rw [this]
    simp only [Int.toNat_natCast]
    omega
  have cw := cw_split t x y
  by_cases c : x ≤ 0 ∨ t.w ≤ x ∨ (t.cell (y * t.w + x).toNat).wide ≠ 0
  · have es : splitT t x y = t := by unfold splitT; rw [if_pos c]
    rw [es]
    refine ⟨h, Cw.refl t, ?_, fun j hj => hj⟩
    rcases c with c | c | c
    · refine cb_row h.grid ?_
      rw [e, mod_row, show x.toNat = 0 by omega]
      exact Nat.zero_mod _
    · refine cb_row h.grid ?_
      rw [e, mod_row, show x.toNat = t.w.toNat by omega]
      exact Nat.mod_self _
    · exact fun _ => c
  · have es : splitT t x y = putT (putT t ((y * t.w + x).toNat - 1) (blkS (t.cell ((y * t.w + x).toNat - 1)).st)) (y * t.w + x).toNat (blkS (t.cell (y * t.w + x).toNat).st) := by unfold splitT; rw [if_neg c]
    have hi : (y * t.w + x).toNat < t.cells.length := by omega
    have h0 : (t.cell (y * t.w + x).toNat).wide = 0 := by
      rcases Int.lt_trichotomy (t.cell (y * t.w + x).toNat).wide 0 with q | q | q
      · exact absurd (Or.inr (Or.inr (by omega))) c
      · exact q
      · exact absurd (Or.inr (Or.inr (by omega))) c
    have hp := h.grid.pos hi h0
    rw [es] at cw ⊢
    generalize (y * t.w + x).toNat = i at *
    have ci : ∀ j, (putT (putT t (i - 1) (blkS (t.cell (i - 1)).st)) i (blkS (t.cell i).st)).cell j = if j = i then blkS (t.cell i).st else if j = i - 1 then blkS (t.cell (i - 1)).st else t.cell j := fun j => by
      rw [cell_put _ _ _ _ (by unfold putT; simp only; rw [List.length_set]; exact hi), cell_put _ _ _ _ (by omega)]
    obtain ⟨g1, g2, g3⟩ := grid_split (g' := (putT (putT t (i - 1) (blkS (t.cell (i - 1)).st)) i (blkS (t.cell i).st)).cell) h.grid i hi h0 (fun j hj n1 n2 => by rw [ci, if_neg n1, if_neg n2]) (by rw [ci, if_pos rfl]; exact blk_sing _) (by rw [ci, if_neg (by omega), if_pos rfl]; exact blk_sing _)
    exact ⟨h.cw cw g1, cw, g2, g3⟩
/-- singles over some cells -/
theorem good_fill {t : Trm} (h : Good t) (f n : Nat) (hn : f + n ≤ t.cells.length) (cf : Cb t.cells.length t.cell f) (ce : Cb t.cells.length t.cell (f + n)) : Good (fillT t f n) :=
  h.cw (cw_fill t f n) (grid_span h.grid f (f + n) cf ce (fun i hi c => by rw [cell_fill t f n i hn, if_neg c]) (fun i hi a b => by rw [cell_fill t f n i hn, if_pos ⟨a, b⟩]; exact blank_sing t))
theorem good_write {t : Trm} (h : Good t) (f : Fine t) (x y : Int) (s : ByteArray) (n : Int) (st : Sty) (x0 : 0 ≤ x) (xn : x + n ≤ t.w) (y0 : 0 ≤ y) (y1 : y < t.h) (n2 : n = 1 ∨ n = 2) (ho : oneB s = some n) (hs : countS st = st) : Good (writeT t x y s n st) := by
  have r := f.row y0 y1
  have cl := f.cl
  have w0 := f.w0
  have s1 := good_split h f x y x0 (by omega) y0 y1
  have f1 := f.cw s1.cw
  have e1 := s1.cw.w
  have s2 := good_split s1.good f1 (x + n) y (by omega) (by rw [e1]; exact xn) y0 (by rw [s1.cw.h]; exact y1)
  have c2 := s1.cw.trans s2.cw
  have l1 := s1.cw.cl
  have l2 := c2.cl
  have b1 := s2.keep _ (by rw [l1]; exact s1.at_)
  have b2 := s2.at_
  rw [l1] at b1 b2
  rw [e1] at b2
  have g2 := s2.good
  have cw := cw_write t x y s n st
  unfold writeT at cw ⊢
  simp only at cw ⊢
  generalize splitT (splitT t x y) (x + n) y = u at *
  have gu := g2.grid
  rw [c2.w, l2] at gu
  have ei : (y * t.w + (x + n)).toNat = (y * t.w + x).toNat + n.toNat := by omega
  have er : (y * t.w + x).toNat = y.toNat * t.w.toNat + x.toNat := by
    obtain ⟨a, rfl⟩ := Int.eq_ofNat_of_zero_le y0
    obtain ⟨b, hb⟩ := Int.eq_ofNat_of_zero_le w0
    rw [hb]
    have : (a : Int) * (b : Int) = ((a * b : Nat) : Int) := by rw [Int.natCast_mul]
    rw [this]
    simp only [Int.toNat_natCast]
    omega
  rw [ei] at b2
  have hi : (y * t.w + x).toNat + n.toNat ≤ t.cells.length := by omega
  have md : ((y * t.w + x).toNat + 1) % t.w.toNat = (x.toNat + 1) % t.w.toNat := by rw [er, Nat.add_assoc, mod_row]
  generalize (y * t.w + x).toNat = i at *
  rcases n2 with rfl | rfl
  · rw [if_neg (by decide)] at cw ⊢
    refine h.cw cw (grid_span gu i (i + 1) b1 b2 (fun j hj c => ?_) (fun j hj a b => ?_))
    · rw [cell_put _ _ _ _ (by omega), if_neg (by omega)]
    · rw [cell_put _ _ _ _ (by omega), if_pos (by omega)]
      exact ⟨hs, rfl, ho⟩
  · rw [if_pos rfl] at cw ⊢
    have ci : ∀ j, (putT (putT u i ⟨s, 2, st⟩) (i + 1) ⟨zB, 0, st⟩).cell j = if j = i + 1 then ⟨zB, 0, st⟩ else if j = i then ⟨s, 2, st⟩ else u.cell j := fun j => by
      rw [cell_put _ _ _ _ (by unfold putT; simp only; rw [List.length_set]; omega), cell_put _ _ _ _ (by omega)]
    have q0 : (putT (putT u i ⟨s, 2, st⟩) (i + 1) ⟨zB, 0, st⟩).cell i = ⟨s, 2, st⟩ := by rw [ci, if_neg (by omega), if_pos rfl]
    refine h.cw cw (grid_pair gu i (by omega) ?_ b1 b2 (fun j hj n1 n2 => by rw [ci, if_neg n2, if_neg n1]) (by rw [q0]) (by rw [q0]; exact ho) (by rw [q0]; exact hs) (by rw [q0, ci, if_pos rfl]))
    rw [md, Nat.mod_eq_of_lt (by omega)]
    omega
theorem Good.mark {t : Trm} (h : Good t) (f n : Nat) : Good (markT t f n) := by
  have c := cw_mark t f n
  refine h.cw c ?_
  have : (markT t f n).cell = t.cell := by funext j; exact cell_mark t f j n
  rw [this]
  exact h.grid
/-- cells go up -/
theorem good_up {t : Trm} (h : Good t) (a z k : Nat) (az : a ≤ z) (hz : z ≤ t.cells.length) (ak : a + k ≤ z) (ca : Cb t.cells.length t.cell a) (ck : Cb t.cells.length t.cell (a + k)) (cz : Cb t.cells.length t.cell z)
    (hr : ∀ i, a < i → i < z - k → (i + k) % t.w.toNat ≠ 0 → i % t.w.toNat ≠ 0) : Good (fillT (partT t a (upL' ((t.cells.drop a).take (z - a)) k)) (z - k) k) := by
  have ll : ((t.cells.drop a).take (z - a)).length = z - a := by rw [List.length_take, List.length_drop]; omega
  have lu := up_len ((t.cells.drop a).take (z - a)) k (by omega)
  have c1 := cw_part t a (upL' ((t.cells.drop a).take (z - a)) k) (by omega)
  have c2 := cw_fill (partT t a (upL' ((t.cells.drop a).take (z - a)) k)) (z - k) k
  have pl := c1.cl
  have cf := fun j => cell_fill (partT t a (upL' ((t.cells.drop a).take (z - a)) k)) (z - k) k j (by omega)
  have cp := fun j => cell_part t a (upL' ((t.cells.drop a).take (z - a)) k) j (by omega)
  refine h.cw (c1.trans c2) (grid_up h.grid a z k hz ak ca ck cz hr (fun i hi c => ?_) (fun i h1 h2 => ?_) (fun i h1 h2 => ?_))
  · rw [cf, if_neg (by omega), cp, if_neg (by omega)]
  · rw [cf, if_neg (by omega), cp, if_pos (by omega), up_get _ _ _ (by omega) (by omega), getD_cut _ _ _ _ (by omega)]
    unfold Trm.cell
    congr 1
    omega
  · rw [cf, if_pos (by omega)]
    exact blank_sing _
/-- cells go down -/
theorem good_down {t : Trm} (h : Good t) (a z k : Nat) (az : a ≤ z) (hz : z ≤ t.cells.length) (ak : a + k ≤ z) (ca : Cb t.cells.length t.cell a) (ck : Cb t.cells.length t.cell (z - k)) (cz : Cb t.cells.length t.cell z)
    (hr : ∀ i, a + k < i → i < z → (i - k) % t.w.toNat ≠ 0 → i % t.w.toNat ≠ 0) : Good (fillT (partT t a (downL' ((t.cells.drop a).take (z - a)) k)) a k) := by
  have ll : ((t.cells.drop a).take (z - a)).length = z - a := by rw [List.length_take, List.length_drop]; omega
  have lu := down_len ((t.cells.drop a).take (z - a)) k (by omega)
  have c1 := cw_part t a (downL' ((t.cells.drop a).take (z - a)) k) (by omega)
  have c2 := cw_fill (partT t a (downL' ((t.cells.drop a).take (z - a)) k)) a k
  have pl := c1.cl
  have cf := fun j => cell_fill (partT t a (downL' ((t.cells.drop a).take (z - a)) k)) a k j (by omega)
  have cp := fun j => cell_part t a (downL' ((t.cells.drop a).take (z - a)) k) j (by omega)
  refine h.cw (c1.trans c2) (grid_down h.grid a z k hz ak ca ck cz hr (fun i hi c => ?_) (fun i h1 h2 => ?_) (fun i h1 h2 => ?_))
  · rw [cf, if_neg (by omega), cp, if_neg (by omega)]
  · rw [cf, if_neg (by omega), cp, if_pos (by omega), down_get _ _ _ (by omega) (by omega) (by omega), getD_cut _ _ _ _ (by omega)]
    unfold Trm.cell
    congr 1
    omega
  · rw [cf, if_pos (by omega)]
    exact blank_sing _
end Go.Proofs.YtkllilehdpdbdaaGreatDoor
