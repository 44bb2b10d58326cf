/- What is shown stays right, behind any bytes (plain). -/
import Derived.Test.YtkllilehdpdbdaaGreatDoorVtH
namespace Go.Proofs.YtkllilehdpdbdaaGreatDoor
open Go.RowKit
set_option linter.unusedVariables false
set_option linter.unusedSimpArgs false

theorem mul_nat {y w : Int} (y0 : 0 ≤ y) (w0 : 0 ≤ w) : (y * w).toNat = y.toNat * w.toNat := by
  obtain ⟨a, rfl⟩ := Int.eq_ofNat_of_zero_le y0
  obtain ⟨b, rfl⟩ := Int.eq_ofNat_of_zero_le w0
  have : (a : Int) * (b : Int) = ((a * b : Nat) : Int) := by rw [Int.natCast_mul]
  rw [this]
  simp only [Int.toNat_natCast]
theorem row_mod {w y i : Nat} (h : y * w < i) (k : i < y * w + w) : i % w ≠ 0 := by
  have e : i = y * w + (i - y * w) := by omega
  rw [e, mod_row, Nat.mod_eq_of_lt (by omega)]
  omega
theorem good_shift {t : Trm} (h : Good t) (f : Fine t) (p : Some' t) (n : Int) : Good (shiftT t n) := by
  have x0 := f.x0
  have y0 := f.y0
  have w0 := p.1
  have xw : t.cur.x < t.w := by have := f.cx; omega
  have yh : t.cur.y < t.h := by have := f.cy; have := p.2; omega
  have r := f.row y0 yh
  have cl := f.cl
  have e1 : (t.cur.y + 1) * t.w = t.cur.y * t.w + t.w := by rw [Int.add_mul, Int.one_mul]
  have em := mul_nat y0 f.w0
  have s1 := good_split h f t.cur.x t.cur.y x0 (by omega) y0 yh
  have f1 := f.cw s1.cw
  unfold shiftT
  simp only
  rw [e1]
  generalize t.cur.x = x at *
  generalize t.cur.y = y at *
  have ez : (((y * t.w + t.w).toNat - (y * t.w + x).toNat : Nat) : Int) = t.w - x := by omega
  rw [ez]
  split
  · rename_i n0
    have s2 := good_split s1.good f1 (t.w - min n (t.w - x)) y (by omega) (by rw [s1.cw.w]; omega) y0 (by rw [s1.cw.h]; exact yh)
    have c2 := s1.cw.trans s2.cw
    have l1 := s1.cw.cl
    have l2 := c2.cl
    have g2 := s2.good
    have b1 := s2.keep _ (by rw [l1]; exact s1.at_)
    have b2 := s2.at_
    rw [s1.cw.w] at b2
    rw [l1] at b1 b2
    generalize splitT (splitT t x y) (t.w - min n (t.w - x)) y = u at *
    have w2 := c2.w
    refine Good.mark ?_ _ _
    have ek : (y * t.w + t.w).toNat - (min n (t.w - x)).toNat = (y * t.w + (t.w - min n (t.w - x))).toNat := by omega
    refine good_down g2 (y * t.w + x).toNat (y * t.w + t.w).toNat (min n (t.w - x)).toNat (by omega) (by rw [l2]; omega) (by omega) (by rw [l2]; exact b1) (by rw [l2, ek]; exact b2) ?_ ?_
    · refine cb_row g2.grid ?_
      rw [w2, show (y * t.w + t.w).toNat = y.toNat * t.w.toNat + t.w.toNat by omega, mod_row, Nat.mod_self]
    · intro i a b _
      rw [w2]
      exact row_mod (y := y.toNat) (by omega) (by omega)
  · rename_i n0
    have s2 := good_split s1.good f1 (x + min (-n) (t.w - x)) y (by omega) (by rw [s1.cw.w]; omega) y0 (by rw [s1.cw.h]; exact yh)
    have c2 := s1.cw.trans s2.cw
    have l1 := s1.cw.cl
    have l2 := c2.cl
    have g2 := s2.good
    have b1 := s2.keep _ (by rw [l1]; exact s1.at_)
    have b2 := s2.at_
    rw [s1.cw.w] at b2
    rw [l1] at b1 b2
    generalize splitT (splitT t x y) (x + min (-n) (t.w - x)) y = u at *
    have w2 := c2.w
    refine Good.mark ?_ _ _
    have ek : (y * t.w + x).toNat + (min (-n) (t.w - x)).toNat = (y * t.w + (x + min (-n) (t.w - x))).toNat := by omega
    refine good_up g2 (y * t.w + x).toNat (y * t.w + t.w).toNat (min (-n) (t.w - x)).toNat (by omega) (by rw [l2]; omega) (by omega) (by rw [l2]; exact b1) (by rw [l2, ek]; exact b2) ?_ ?_
    · refine cb_row g2.grid ?_
      rw [w2, show (y * t.w + t.w).toNat = y.toNat * t.w.toNat + t.w.toNat by omega, mod_row, Nat.mod_self]
    · intro i a b _
      rw [w2]
      exact row_mod (y := y.toNat) (by omega) (by omega)
theorem mod_add_mul (w i q : Nat) : (i + q * w) % w = i % w := Nat.add_mul_mod_self_right _ _ _
theorem mod_sub_mul {w i q : Nat} (h : q * w ≤ i) : (i - q * w) % w = i % w := by
  have := mod_add_mul w (i - q * w) q
  rw [Nat.sub_add_cancel h] at this
  exact this.symm
theorem good_scroll {t : Trm} (h : Good t) (f : Fine t) (a e n : Int) (a0 : 0 ≤ a) (ae : a ≤ e) (eh : e ≤ t.h) : Good (scrollT t a e n) := by
  have w0 := f.w0
  have cl := f.cl
  have ea := mul_nat a0 w0
  have ee := mul_nat (Int.le_trans a0 ae) w0
  have le : e * t.w ≤ t.w * t.h := by rw [Int.mul_comm t.w t.h]; exact Int.mul_le_mul_of_nonneg_right eh w0
  have l2 : a * t.w ≤ e * t.w := Int.mul_le_mul_of_nonneg_right ae w0
  have p0 : 0 ≤ a * t.w := Int.mul_nonneg a0 w0
  have ll : ((t.cells.drop (a * t.w).toNat).take ((e * t.w).toNat - (a * t.w).toNat)).length = (e * t.w).toNat - (a * t.w).toNat := by rw [List.length_take, List.length_drop]; omega
  have ab : 0 ≤ absI n := by unfold absI; omega
  have pk : 0 ≤ absI n * t.w := Int.mul_nonneg ab w0
  have ek : ∃ q, (min (absI n * t.w) (((e * t.w).toNat - (a * t.w).toNat : Nat) : Int)).toNat = q * t.w.toNat := by
    by_cases c : absI n * t.w ≤ (((e * t.w).toNat - (a * t.w).toNat : Nat) : Int)
    · exact ⟨(absI n).toNat, by rw [← mul_nat ab w0]; omega⟩
    · refine ⟨e.toNat - a.toNat, ?_⟩
      rw [Nat.sub_mul, ← ea, ← ee]
      omega
  have cb : ∀ q, Cb t.cells.length t.cell (q * t.w.toNat) := fun q => cb_row h.grid (Nat.mul_mod_left _ _)
  unfold scrollT
  simp only
  rw [ll]
  obtain ⟨q, hq⟩ := ek
  have kle : (min (absI n * t.w) (((e * t.w).toNat - (a * t.w).toNat : Nat) : Int)).toNat ≤ (e * t.w).toNat - (a * t.w).toNat := by omega
  generalize (min (absI n * t.w) (((e * t.w).toNat - (a * t.w).toNat : Nat) : Int)).toNat = k at *
  split
  · refine Good.mark (good_up h _ _ k (by omega) (by omega) (by omega) (by rw [ea]; exact cb _) (by rw [ea, hq, ← Nat.add_mul]; exact cb _) (by rw [ee]; exact cb _) ?_) _ _
    intro i _ _ m
    rw [hq, mod_add_mul] at m
    exact m
  · refine Good.mark (good_down h _ _ k (by omega) (by omega) (by omega) (by rw [ea]; exact cb _) (by rw [ee, hq, ← Nat.sub_mul]; exact cb _) (by rw [ee]; exact cb _) ?_) _ _
    intro i m1 m2 m
    rw [hq] at m1 m
    rw [mod_sub_mul (by omega)] at m
    exact m
theorem good_erase {t : Trm} (h : Good t) (f : Fine t) (p : Some' t) (a e : Int) (a0 : 0 ≤ a) (ae : a ≤ e) (al : a < t.cells.length) (el : e ≤ t.cells.length) : Good (eraseT t a e) := by
  have w0 := p.1
  have cl := f.cl
  have sp : ∀ b : Int, 0 ≤ b → b < t.cells.length → 0 ≤ b % t.w ∧ b % t.w ≤ t.w ∧ 0 ≤ b / t.w ∧ b / t.w < t.h ∧ (b / t.w * t.w + b % t.w).toNat = b.toNat := fun b b0 bl => by
    have m1 := Int.emod_lt_of_pos b w0
    have d := Int.mul_ediv_add_emod b t.w
    rw [Int.mul_comm] at d
    refine ⟨Int.emod_nonneg _ (by omega), by omega, Int.ediv_nonneg b0 (by omega), Int.ediv_lt_of_lt_mul w0 (by rw [Int.mul_comm]; omega), by rw [d]⟩
  obtain ⟨q1, q2, q3, q4, q5⟩ := sp a a0 al
  have s1 := good_split h f (a % t.w) (a / t.w) q1 q2 q3 q4
  have b1 := s1.at_
  rw [q5] at b1
  have f1 := f.cw s1.cw
  have l1 := s1.cw.cl
  unfold eraseT
  simp only
  by_cases c : e < t.cells.length
  · rw [if_pos c]
    obtain ⟨r1, r2, r3, r4, r5⟩ := sp e (by omega) c
    have s2 := good_split s1.good f1 (e % t.w) (e / t.w) r1 (by rw [s1.cw.w]; exact r2) r3 (by rw [s1.cw.h]; exact r4)
    have b2 := s2.at_
    have b3 := s2.keep _ (by rw [l1]; exact b1)
    have l2 := s2.cw.cl
    rw [s1.cw.w, r5] at b2
    exact good_fill s2.good _ _ (by omega) (by rw [l2]; exact b3) (by rw [l2, show a.toNat + (e - a).toNat = e.toNat by omega]; exact b2)
  · rw [if_neg c]
    exact good_fill s1.good _ _ (by omega) (by rw [l1]; exact b1) (cb_end (by omega))
theorem good_cur {t : Trm} (h : Good t) (c : Cur) (e : countS c.st = c.st) : Good { t with cur := c } := h.same rfl rfl rfl e h.sv
theorem good_setX {t : Trm} (h : Good t) (x : Int) : Good (setX t x) := h.same rfl rfl rfl h.st h.sv
theorem good_setY {t : Trm} (h : Good t) (y : Int) : Good (setY t y) := h.same rfl rfl rfl h.st h.sv
theorem good_pend {t : Trm} (h : Good t) (b : Bool) : Good { t with pend := b } := h.same rfl rfl rfl h.st h.sv
theorem good_opn {t : Trm} (h : Good t) (b : Int) : Good { t with opn := b } := h.same rfl rfl rfl h.st h.sv
theorem good_index {t : Trm} (h : Good t) (f : Fine t) (p : Some' t) : Good (indexT t) := by
  unfold indexT
  split
  · rename_i e
    have := f.p0; have := f.p1; have := f.p2; have := p.2
    exact good_scroll h f _ _ _ f.p0 (by omega) (by omega)
  · exact good_setY h _
theorem good_reverse {t : Trm} (h : Good t) (f : Fine t) (p : Some' t) : Good (reverseT t) := by
  unfold reverseT
  split
  · rename_i e
    have := f.p0; have := f.p1; have := f.p2; have := p.2
    exact good_scroll h f _ _ _ f.p0 (by omega) (by omega)
  · exact good_setY h _
theorem good_next {t : Trm} (h : Good t) (f : Fine t) (p : Some' t) : Good (nextT t) := by
  have f1 : Fine (setX { t with pend := false } 0) := fine_setX (fine_pend f _) 0 (by omega) (by omega)
  exact good_index (good_setX (good_pend h _) 0) f1 p
theorem good_restore {t : Trm} (h : Good t) : Good (restoreT t) := h.same rfl rfl rfl h.sv h.sv
theorem good_stand {t : Trm} (h : Good t) (x : Int) : Good (standT t x) := by
  unfold standT
  split <;> exact h.same rfl rfl rfl h.st h.sv
theorem good_control {t : Trm} (h : Good t) (f : Fine t) (r : Int) : Good (controlT t r) := by
  have h0 := good_opn h (-1)
  have f0 := fine_opn f (-1)
  unfold controlT
  simp only
  split
  · exact h0
  · rename_i n0
    have p := f.some n0
    repeat' split
    · exact h0.same rfl rfl rfl h0.st h0.sv
    · exact h0.same rfl rfl rfl h0.st h0.sv
    · have g := good_index h0 f0 p
      exact g.same rfl rfl rfl g.st g.sv
    · exact h0.same rfl rfl rfl h0.st h0.sv
    · exact h0

/-! clusters -/
theorem charI_idem (r : Int) : charI (charI r) = charI r := by
  by_cases h : 0 ≤ r ∧ r ≤ 1114111 ∧ (r < 55296 ∨ 57343 < r)
  · have e : charI r = r := by unfold charI; rw [if_pos h]
    rw [e, e]
  · have e : charI r = 65533 := by unfold charI; rw [if_neg h]
    rw [e]; rfl
theorem bytes_char (r : Int) : bytesI (charI r) = bytesI r := by unfold bytesI; rw [charI_idem]
theorem one_char (r : Int) : oneB (charB r) = some (widthB (charB r)) := by
  have e : runesB (charB r) = [charI r] := by
    have := runes_char r [] (by simp)
    rw [List.append_nil] at this
    exact this
  have f := firstC_bounds [charI r] (by simp)
  have f1 : firstC [charI r] = 1 := by have := f.2.1; simp at this; omega
  have es : splitB (charB r) = [(charB r, wideC ([charI r].take 1))] := by
    unfold splitB
    rw [e, clL_cons _ (by simp), f1]
    show [(barr (textI [charI r]), _)] = _
    rw [textI_cons, bytes_char]
    show [(barr (bytesI r ++ []), _)] = _
    rw [List.append_nil]
    rfl
  unfold oneB widthB
  rw [es]
  simp
def loneK (r : Int) : Bool := decide (kindI r = 1 ∨ kindI r = 2 ∨ kindI r = 4 ∨ kindI r = 3)
theorem wide_lone (r : Int) (l : List Int) : wideC (r :: l) = 0 ↔ loneK r = true := by
  unfold wideC loneK
  simp only [List.getD_cons_zero, decide_eq_true_eq]
  constructor
  · intro h
    by_cases c : kindI r = 1 ∨ kindI r = 2 ∨ kindI r = 4 ∨ kindI r = 3
    · exact c
    · rw [if_neg c] at h
      repeat' split at h
      all_goals omega
  · intro h
    rw [if_pos h]
theorem take_cons {l : List Int} {r : Int} {q : List Int} (e : l = r :: q) {n : Nat} (hn : 1 ≤ n) : l.take n = r :: q.take (n - 1) := by
  subst e
  obtain ⟨m, rfl⟩ : ∃ m, n = m + 1 := ⟨n - 1, by omega⟩
  simp
theorem byL_rng (s : ByteArray) : ∀ b ∈ byL s, 0 ≤ b ∧ b < 256 := by
  intro b hb
  unfold byL at hb
  obtain ⟨c, _, rfl⟩ := List.mem_map.1 hb
  have := c.toNat_lt
  omega
theorem barr_byL (s : ByteArray) : barr (byL s) = s := by
  apply ByteArray.ext
  have e : ((fun n : Int => UInt8.ofNat n.toNat) ∘ fun b : UInt8 => (b.toNat : Int)) = id := by
    funext b
    simp
  unfold barr byL
  rw [List.map_map, e]
  simp
theorem barr_app (a b : List Int) : barr a ++ barr b = barr (a ++ b) := by
  apply ByteArray.ext
  unfold barr
  simp
/-- what is put behind a cluster that is seen is seen -/
theorem one_more {a s : ByteArray} {m n : Int} (h : oneB a = some m) (hm : m ≠ 0) (k : oneB (a ++ s) = some n) : n ≠ 0 := by
  -- a's first character
  have ha : ∃ r q, runesB a = r :: q ∧ a = barr (textI (r :: q)) ∧ m = wideC (r :: q) := by
    unfold oneB at h
    split at h
    · rename_i c e
      split at h
      · rename_i e2
        cases h
        unfold splitB at e
        cases er : runesB a with
        | nil => rw [er, clL_nil] at e; cases e
        | cons r q =>
          have fb := firstC_bounds (r :: q) (by simp)
          rw [er, clL_cons _ (by simp)] at e
          have fb1 : 1 ≤ firstC (r :: q) := fb.1
          have tc := take_cons (l := r :: q) rfl fb1
          rw [tc] at e
          simp only [List.map_cons] at e
          obtain ⟨rfl, e3⟩ := List.cons.inj e
          have dn : (r :: q).drop (firstC (r :: q)) = [] := by
            cases ed : (r :: q).drop (firstC (r :: q)) with
            | nil => rfl
            | cons x y => rw [ed, clL_cons _ (by simp)] at e3; cases e3
          have full : q.take (firstC (r :: q) - 1) = q := by
            apply List.take_of_length_le
            have := congrArg List.length dn
            rw [List.length_drop] at this
            simp at this
            omega
          rw [full] at e2 ⊢
          exact ⟨r, q, rfl, e2.symm, rfl⟩
      · cases h
    · cases h
  obtain ⟨r, q, er, ea, em⟩ := ha
  have nl : loneK r ≠ true := fun z => hm (by rw [em]; exact (wide_lone r q).2 z)
  have rr : runesB (a ++ s) = charI r :: runesB (barr (textI q ++ byL s)) := by
    have e1 : a ++ s = barr (bytesI r ++ (textI q ++ byL s)) := by
      rw [ea]
      conv => lhs; rw [← barr_byL s]
      rw [barr_app, textI_cons, List.append_assoc]
    rw [e1]
    exact runes_char r _ (by
      intro b hb
      rcases List.mem_append.1 hb with c | c
      · exact textI_rng q b c
      · exact byL_rng s b c)
  have ra : runesB a = charI r :: runesB (barr (textI q)) := by
    rw [ea, textI_cons]
    exact runes_char r _ (textI_rng q)
  have cr : charI r = r := by rw [er] at ra; exact (List.cons.inj ra).1.symm
  rw [cr] at rr
  unfold oneB at k
  split at k
  · rename_i c e
    split at k
    · cases k
      unfold splitB at e
      rw [rr] at e
      have fb := firstC_bounds (r :: runesB (barr (textI q ++ byL s))) (by simp)
      rw [clL_cons _ (by simp), take_cons (l := r :: runesB (barr (textI q ++ byL s))) rfl fb.1] at e
      simp only [List.map_cons] at e
      obtain ⟨rfl, _⟩ := List.cons.inj e
      exact fun z => nl ((wide_lone r _).1 z)
    · cases k
  · cases k

/-- the open cell is seen -/
def OpnW (t : Trm) : Prop := t.opn = -1 ∨ (t.cell t.opn.toNat).wide ≠ 0
theorem opnW_write {t : Trm} (f : Fine t) {x y : Int} (x0 : 0 ≤ x) (x1 : x < t.w) (y0 : 0 ≤ y) (y1 : y < t.h) (s : ByteArray) (n : Int) (st : Sty) (hn : n ≠ 0) (ho : t.opn = y * t.w + x) : OpnW (writeT t x y s n st) := by
  have r := f.row y0 y1
  have cl := f.cl
  refine Or.inr ?_
  have e : (writeT t x y s n st).opn = y * t.w + x := (cw_write t x y s n st).opn.trans ho
  rw [e, write_cell t x y s n st (by omega)]
  exact hn
theorem opnW_stand {t : Trm} (h : OpnW t) (x : Int) : OpnW (standT t x) := by
  obtain ⟨_, _, e3, e4⟩ := stand_same t x
  rcases h with e | e
  · exact Or.inl (e3.trans e)
  · refine Or.inr ?_
    unfold Trm.cell at e ⊢
    rw [e3, e4]
    exact e
theorem good_fresh {t : Trm} (h : Good t) (f : Fine t) (p : Some' t) (r : Int) : Good (freshT t (charB r)) ∧ OpnW (freshT t (charB r)) := by
  have n2 := width_char r
  have o1 := one_char r
  generalize charB r = s at *
  unfold freshT
  simp only
  have h0 := good_opn h (-1)
  have f0 : Fine { t with opn := -1 } := fine_opn f _
  have d0 : Dim t { t with opn := -1 } := ⟨rfl, rfl⟩
  have off : ∀ u : Trm, Good u → u.opn = -1 → Good u ∧ OpnW u := fun u g e => ⟨g, Or.inl e⟩
  split
  · exact off _ h0 rfl
  · rename_i nw
    have h1 : Good (if ({ t with opn := -1 } : Trm).pend = true then nextT { t with opn := -1 } else { t with opn := -1 }) ∧ Fine (if ({ t with opn := -1 } : Trm).pend = true then nextT { t with opn := -1 } else { t with opn := -1 }) ∧ Dim t (if ({ t with opn := -1 } : Trm).pend = true then nextT { t with opn := -1 } else { t with opn := -1 }) ∧ (if ({ t with opn := -1 } : Trm).pend = true then nextT { t with opn := -1 } else { t with opn := -1 }).opn = -1 := by
      split
      · exact ⟨good_next h0 f0 p, fine_next f0 p, d0.trans (dim_next _), (ho_next _).off rfl⟩
      · exact ⟨h0, f0, d0, rfl⟩
    generalize (if ({ t with opn := -1 } : Trm).pend = true then nextT { t with opn := -1 } else { t with opn := -1 }) = t1 at *
    obtain ⟨h1, f1, d1, o1'⟩ := h1
    split
    · exact off _ h1 o1'
    · have h2 : Good (if t1.w < t1.cur.x + widthB s then nextT t1 else t1) ∧ Fine (if t1.w < t1.cur.x + widthB s then nextT t1 else t1) ∧ Dim t (if t1.w < t1.cur.x + widthB s then nextT t1 else t1) ∧ (if t1.w < t1.cur.x + widthB s then nextT t1 else t1).cur.x + widthB s ≤ (if t1.w < t1.cur.x + widthB s then nextT t1 else t1).w := by
        split
        · have dn := dim_next t1
          refine ⟨good_next h1 f1 (dim_some d1 p), fine_next f1 (dim_some d1 p), d1.trans dn, ?_⟩
          have ex : (nextT t1).cur.x = 0 := by
            unfold nextT indexT
            split
            · rw [(cw_scroll _ _ _ _).cur]; rfl
            · rfl
          rw [ex, (d1.trans dn).1]
          omega
        · exact ⟨h1, f1, d1, by omega⟩
      generalize (if t1.w < t1.cur.x + widthB s then nextT t1 else t1) = t2 at *
      obtain ⟨h2, f2, d2, q2⟩ := h2
      have h3 : Good (if t2.ins = true then shiftT t2 (widthB s) else t2) ∧ Fine (if t2.ins = true then shiftT t2 (widthB s) else t2) ∧ Dim t (if t2.ins = true then shiftT t2 (widthB s) else t2) ∧ (if t2.ins = true then shiftT t2 (widthB s) else t2).cur.x + widthB s ≤ (if t2.ins = true then shiftT t2 (widthB s) else t2).w := by
        split
        · have c := cw_shift t2 (widthB s) f2 (dim_some d2 p)
          exact ⟨good_shift h2 f2 (dim_some d2 p) _, f2.cw c, d2.trans (dim_shift _ _), by rw [c.cur, c.w]; exact q2⟩
        · exact ⟨h2, f2, d2, q2⟩
      generalize (if t2.ins = true then shiftT t2 (widthB s) else t2) = t3 at *
      obtain ⟨h3, f3, d3, q3⟩ := h3
      have p3 := dim_some d3 p
      have x0 := f3.x0
      have := p3.1
      have := p3.2
      have cx := f3.cx
      have cy := f3.cy
      have nz : widthB s ≠ 0 := by omega
      exact ⟨good_stand (good_write (good_opn h3 (t3.cur.y * t3.w + t3.cur.x)) (fine_opn f3 (t3.cur.y * t3.w + t3.cur.x)) _ _ _ _ _ x0 q3 f3.y0 (by show t3.cur.y < t3.h; omega) (by omega) o1 h3.st) _,
        opnW_stand (opnW_write (fine_opn f3 (t3.cur.y * t3.w + t3.cur.x)) x0 (by show t3.cur.x < t3.w; omega) f3.y0 (by show t3.cur.y < t3.h; omega) _ _ _ nz rfl) _⟩
theorem good_print {t : Trm} (h : Good t) (f : Fine t) (p : Some' t) (o : OpnOk t) (ow : OpnW t) (r : Int) : Good (printT t (charB r)) ∧ OpnW (printT t (charB r)) := by
  have fr := good_fresh h f p r
  unfold printT
  split
  · rename_i c
    have oa : OpnAt t := by rcases o with e | e; · omega
                            · exact e
    have ow : (t.cell t.opn.toNat).wide ≠ 0 := by rcases ow with e | e; · omega
                                                  · exact e
    obtain ⟨x0, x1, y0, y1, e⟩ := opn_place f p oa
    have cl := f.cl
    have hi := oa.hi
    have co := h.grid.cell t.opn.toNat (by omega)
    have om : oneB (t.cell t.opn.toNat).text = some (t.cell t.opn.toNat).wide := by
      rcases co.w with ⟨w0, _⟩ | ⟨w1, q⟩ | ⟨w2, q⟩
      · exact absurd w0 ow
      · rw [w1]; exact q
      · rw [w2]; exact q
    split
    · rename_i n eo
      have nz := one_more om ow eo
      obtain ⟨q1, q2⟩ := oneB_fits eo
      simp only
      split
      · rename_i en
        exact ⟨good_write h f _ _ _ _ _ x0 (by rw [en]; exact oa.fits) y0 y1 (by omega) eo co.st, opnW_write f x0 x1 y0 y1 _ _ _ nz e⟩
      · split
        · exact ⟨good_stand (good_write h f _ _ _ _ _ x0 (by omega) y0 y1 (by omega) eo co.st) _, opnW_stand (opnW_write f x0 x1 y0 y1 _ _ _ nz e) _⟩
        · exact ⟨h, Or.inr ow⟩
    · exact fr
  · exact fr
end Go.Proofs.YtkllilehdpdbdaaGreatDoor
