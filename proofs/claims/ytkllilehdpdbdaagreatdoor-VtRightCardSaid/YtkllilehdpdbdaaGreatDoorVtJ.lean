/- What is shown stays right: runes. -/
import Derived.Test.YtkllilehdpdbdaaGreatDoorVtI
namespace Go.Proofs.YtkllilehdpdbdaaGreatDoor
open Go Go.RowKit Go.Sort
set_option linter.unusedVariables false
set_option linter.unusedSimpArgs false
theorem good_rune {t : Trm} (h : Good t) (f : Fine t) (o : OpnOk t) (ow : OpnW t) (r : Int) : Good (runeT t r) ∧ OpnW (runeT t r) := by
  unfold runeT
  split
  · exact ⟨h.same rfl rfl rfl h.st h.sv, Or.inl rfl⟩
  · split
    · exact ⟨good_control h f r, Or.inl (control_opn t r)⟩
    · split
      · rename_i p
        exact good_print h f (f.some (by omega)) o ow r
      · exact ⟨h, ow⟩
theorem good_swap {t : Trm} (h : Good t) (b : Bool) : Good (allW { { t with pend := false } with alt := b, cells := t.away, away := t.cells }) := ⟨h.away, h.grid, h.st, h.sv⟩
theorem good_mode {t : Trm} (h : Good t) (k : Int) (on : Bool) : Good (modeT t k on) := by
  unfold modeT
  split
  · unfold homeT; exact h.same rfl rfl rfl h.st h.sv
  · split
    · exact h.same rfl rfl rfl h.st h.sv
    · split
      · exact h.same rfl rfl rfl h.st h.sv
      · split
        · simp only
          split
          · exact good_pend h false
          · have g := good_swap h on
            split
            · have g2 : Good { allW { { t with pend := false } with alt := on, cells := t.away, away := t.cells } with sav := t.cur } := g.same rfl rfl rfl g.st g.st
              exact good_fill g2 0 _ (by rw [Nat.zero_add]; exact Nat.le_refl _) (cb_row g2.grid (Nat.zero_mod _)) (cb_end (by rw [Nat.zero_add]; exact Nat.le_refl _))
            · exact good_restore g
        · exact h
theorem good_titled {t : Trm} (h : Good t) : Good (titledT t) := by
  unfold titledT
  simp only
  split
  · exact h.same rfl rfl rfl h.st h.sv
  · exact h
theorem good_within {t : Trm} (h : Good t) (b : Int) : Good (withinT t b) := by
  unfold withinT
  split
  · exact h.same rfl rfl rfl h.st h.sv
  · split
    · exact h
    · split
      · have g := good_titled h
        exact g.same rfl rfl rfl g.st g.sv
      · split
        · exact h.same rfl rfl rfl h.st h.sv
        · exact h
theorem good_reply {t : Trm} (h : Good t) (s : ByteArray) : Good (replyT t s) := by
  unfold replyT
  split
  · exact h.same rfl rfl rfl h.st h.sv
  · exact h
theorem good_report {t : Trm} (h : Good t) (k : Int) : Good (reportT t k) := by
  unfold reportT
  split
  · exact good_reply h _
  · split
    · exact good_reply h _
    · exact h
theorem good_modes : ∀ (l : List Int) {t : Trm} (on : Bool), Good t → Good (modesT t on l)
  | [], _, _, h => h
  | k :: l, _, on, h => good_modes l on (good_mode h k on)
theorem sing_blank : SingOk blankC := blk_sing plainS
theorem grid_sing {w N : Nat} {g : Nat → Cel} (h : ∀ i, i < N → SingOk (g i)) : Grid w N g where
  cell := fun i hi => (h i hi).ok
  pair := fun i hi e => by have := (h i hi).2.1; omega
  half := fun i hi e => by have := (h i hi).2.1; omega
theorem grid_blanks (w N : Nat) : Grid w (List.replicate N blankC).length (fun i => (List.replicate N blankC).getD i celD) := grid_sing fun i hi => by
  rw [List.length_replicate] at hi
  show SingOk ((List.replicate N blankC).getD i celD)
  rw [List.getD_eq_getElem?_getD, List.getElem?_replicate, if_pos hi]
  exact sing_blank
theorem good_new (w h : Int) : Good (newV w h) := ⟨grid_blanks _ _, grid_blanks _ _, rfl, rfl⟩
theorem good_allW {t : Trm} (h : Good t) : Good (allW t) := h.same rfl rfl rfl h.st h.sv
theorem good_escaped {t : Trm} (h : Good t) (f : Fine t) (b : Int) : Good (escapedT t b) := by
  have key : ∀ u : Trm, Fine u ∧ Good u → Good (if u.w * u.h = 0 then u
      else if b = 69 then { (indexT (setX u 0)) with pend := false }
      else if b = 68 then { (indexT u) with pend := false }
      else if b = 77 then { (reverseT u) with pend := false }
      else if b = 72 then { u with stops := u.stops.set u.cur.x.toNat true }
      else u) := by
    rintro u ⟨hu, gu⟩
    by_cases c : u.w * u.h = 0
    · rw [if_pos c]; exact gu
    · rw [if_neg c]
      have p := hu.some c
      repeat' split
      · exact good_pend (good_index (good_setX gu 0) (fine_setX hu 0 (Int.le_refl 0) (Or.inr rfl)) p) _
      · exact good_pend (good_index gu hu p) _
      · exact good_pend (good_reverse gu hu p) _
      · exact gu.same rfl rfl rfl gu.st gu.sv
      · exact gu
  unfold escapedT
  simp only
  refine key _ ⟨?_, ?_⟩
  · repeat' split
    all_goals first
    | exact f.still rfl rfl rfl
    | exact (fine_allW (fine_new t.w t.h f.w0 f.w1 f.h0 f.h1 f.ar)).still rfl rfl rfl
    | exact fine_restore (f.still rfl rfl rfl)
  · have g0 : Good { t with state := 0 } := h.same rfl rfl rfl h.st h.sv
    have gn := good_new t.w t.h
    repeat' split
    all_goals first
    | exact h.same rfl rfl rfl h.st h.sv
    | exact h.same rfl rfl rfl h.st h.st
    | exact good_allW (Good.same gn rfl rfl rfl gn.st gn.sv)
    | exact good_restore g0
theorem good_eraseLine {t : Trm} (h : Good t) (f : Fine t) (p : Some' t) (k : Int) : Good (eraseLineT t k) := by
  have x0 := f.x0
  have w0 := p.1
  have cl := f.cl
  have y1 : t.cur.y < t.h := by have := f.cy; have := p.2; omega
  have xw : t.cur.x < t.w := by have := f.cx; omega
  obtain ⟨r1, r2⟩ := f.row f.y0 y1
  unfold eraseLineT
  repeat' split
  · exact good_erase h f p _ _ (by omega) (by omega) (by omega) (by omega)
  · exact good_erase h f p _ _ (by omega) (by omega) (by omega) (by omega)
  · exact good_erase h f p _ _ (by omega) (by omega) (by omega) (by omega)
  · exact h
theorem good_eraseScreen {t : Trm} (h : Good t) (f : Fine t) (p : Some' t) (k : Int) : Good (eraseScreenT t k) := by
  have x0 := f.x0
  have w0 := p.1
  have cl := f.cl
  have y1 : t.cur.y < t.h := by have := f.cy; have := p.2; omega
  have xw : t.cur.x < t.w := by have := f.cx; omega
  obtain ⟨r1, r2⟩ := f.row f.y0 y1
  have pos := some_pos p
  unfold eraseScreenT
  repeat' split
  · exact good_erase h f p _ _ (by omega) (by omega) (by omega) (by omega)
  · exact good_erase h f p _ _ (by omega) (by omega) (by omega) (by omega)
  · exact good_erase h f p _ _ (by omega) (by omega) (by omega) (by omega)
  · exact h
theorem good_eraseCells {t : Trm} (h : Good t) (f : Fine t) (p : Some' t) (k : Int) (k1 : 1 ≤ k) : Good (eraseT t (t.cur.y * t.w + t.cur.x) (t.cur.y * t.w + t.cur.x + min k (t.w - t.cur.x))) := by
  have x0 := f.x0
  have cl := f.cl
  have y1 : t.cur.y < t.h := by have := f.cy; have := p.2; omega
  have xw : t.cur.x < t.w := by have := f.cx; have := p.1; omega
  obtain ⟨r1, r2⟩ := f.row f.y0 y1
  exact good_erase h f p _ _ (by omega) (by omega) (by omega) (by omega)
theorem good_lines {t : Trm} (h : Good t) (f : Fine t) (n : Int) : Good (linesT t n) := by
  unfold linesT
  split
  · rename_i c
    have := f.p2
    exact good_setX (good_scroll h f _ _ n f.y0 (by omega) (by omega)) 0
  · exact h
theorem good_scrolls {t : Trm} (h : Good t) (f : Fine t) (p : Some' t) (n : Int) : Good (scrollT t t.top (t.bot + 1) n) := by
  have := f.p0
  have := f.p1
  have := f.p2
  have := p.2
  exact good_scroll h f _ _ n (by omega) (by omega) (by omega)
theorem good_margins {t : Trm} (h : Good t) (n : Nums) : Good (marginsT t n) := by
  unfold marginsT
  simp only
  repeat' split
  all_goals first
  | exact h
  | (unfold homeT; exact h.same rfl rfl rfl h.st h.sv)
theorem good_tabs {t : Trm} (h : Good t) (d : Int) : ∀ n, Good (tabsT t d n)
  | 0 => h
  | n + 1 => by
    have g := good_tabs h d n
    show Good (tabT _ d)
    unfold tabT
    exact g.same rfl rfl rfl g.st g.sv
theorem elim_if {c : Prop} [Decidable c] {P : Trm → Prop} {a : Trm} {r : Option Trm} (h1 : P a) (h2 : r.elim True P) : (if c then some a else r).elim True P := by
  by_cases h : c
  · rw [if_pos h]; exact h1
  · rw [if_neg h]; exact h2
theorem good_act {t : Trm} (h : Good t) (f : Fine t) (p : Some' t) (b : Int) (n : Nums) : Good (actT t b n) := by
  have k1 : 1 ≤ n.count 0 := by unfold Nums.count; split <;> omega
  have key0 : (actT? t b n).elim True Good := by
    unfold actT?
    simp only
    repeat (refine elim_if (by first
      | exact good_setX h _
      | exact good_setY h _
      | exact good_setX (good_setY h _) _
      | exact good_tabs h _ _
      | exact good_eraseScreen h f p _
      | exact good_eraseLine h f p _
      | exact good_lines h f _
      | exact good_shift h f p _
      | exact good_scrolls h f p _
      | exact good_eraseCells h f p _ k1
      | exact good_margins h n
      | exact good_restore h) ?_)
    exact trivial
  have key : ∀ u, actT? t b n = some u → Good u := fun u e => by rw [e] at key0; exact key0
  unfold actT
  repeat' split
  · exact h.same rfl rfl rfl h.st h.sv
  · exact h.same rfl rfl rfl h.st h.sv
  · exact h
  · exact h.same rfl rfl rfl h.st h.st
  · rename_i u e
    exact good_pend (key u e) _
  · exact h
end Go.Proofs.YtkllilehdpdbdaaGreatDoor
