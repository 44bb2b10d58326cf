/- The document's loop over the units of a frame (plain law). -/
import Derived.Test.YtifoijbpbigaaaaGreatDoorFRcD
set_option linter.unusedVariables false
set_option linter.unusedSimpArgs false
namespace Go.Proofs.YtifoijbpbigaaaaGreatDoor
section
open Go Go.RowKit Go.Sort
section
def dueB (K L : List Cel) (i n : Nat) : Bool := decide (K[i]? ≠ L[i]?) || (decide (n = 2) && decide (K[i + 1]? ≠ L[i + 1]?))
theorem area {s : Scr} (h : zi s = true) : s.cells.length = s.h.toNat * s.w.toNat /\ 0 <= s.w /\ s.w <= 4096 /\ 0 <= s.h /\ s.h <= 4096 /\ s.cells.length <= 1048576 := by
 obtain ⟨r1, r2, r3, r4⟩ := z7 h
 have sz := qZ r1
 refine ⟨?_, sz.1, sz.2.1, sz.2.2.1, sz.2.2.2.1, by omega⟩
 have e1 : ((s.h.toNat : Nat) : Int) = s.h := by omega
 have e2 : ((s.w.toNat : Nat) : Int) = s.w := by omega
 have : (s.cells.length : Int) = ((s.h.toNat * s.w.toNat : Nat) : Int) := by rw [r2, Int.natCast_mul, e1, e2, Int.mul_comm]
 exact Int.ofNat.inj this
structure LpS (R : Scr) (K : List Cel) (M : Tel) (y x : Nat) (t : Tel) : Prop where
 left : zV R.w R.cells t (zg (y * R.w.toNat + x) (K.drop (y * R.w.toNat + x)) (R.cells.drop (y * R.w.toNat + x))) = M
 all : rowR (R.cells.drop (y * R.w.toNat + x)) = true
 row : y < R.h.toNat -> rowR ((zG R y).drop x) = true
 bnd : Bnd R.cells (y * R.w.toNat + x) t
theorem LpS.start {R : Scr} {K : List Cel} {t : Tel} (hR : zi R = true) (b : Bnd R.cells 0 t) : LpS R K (zV R.w R.cells t (zg 0 K R.cells)) 0 0 t := by
 have e : 0 * R.w.toNat + 0 = 0 := by omega
 refine ⟨by rw [e, List.drop_zero, List.drop_zero], by rw [e, List.drop_zero]; exact xI hR, fun h => by rw [List.drop_zero]; exact (z7 hR).2.2.1 0 h, by rw [e]; exact b⟩
theorem LpS.one {R : Scr} {K : List Cel} {M t : Tel} {y x : Nat} (h : LpS R K M y x t) (hR : zi R = true) (hl : K.length = R.cells.length) (ok : ∀ c ∈ R.cells, okR c) (hs : totS R.cells <= 1000000000) (hy : y < R.h.toNat) (hx : x < R.w.toNat) :
  ∃ (n : Nat) (hi : y * R.w.toNat + x < R.cells.length), (n = 1 \/ n = 2) /\ (R.cells[y * R.w.toNat + x]).wide = (n : Int) /\ x + n <= R.w.toNat /\ (n = 2 -> y * R.w.toNat + x + 1 < R.cells.length) /\
   LpS R K M y (x + n) (if dueB K R.cells (y * R.w.toNat + x) n = true then zN R.w t (y * R.w.toNat + x) n R.cells[y * R.w.toNat + x] else t) := by
 obtain ⟨a1, a2, a3, a4, a5, a6⟩ := area hR
 obtain ⟨hi, hrow⟩ := row_in hR hy hx (h.row hy)
 have ls := KD h.left hl hi h.all
 have hb := h.bnd
 generalize hI : y * R.w.toNat + x = i at *
 have hw : 1 <= R.w := by omega
 have ge : ∀ (j : Nat) (hj : j < R.cells.length), (K[j]? = (R.cells)[j]? ↔ K[j]'(by omega) = R.cells[j]) := fun j hj => by
  rw [List.getElem?_eq_getElem hj, List.getElem?_eq_getElem (show j < K.length by omega)]
  exact ⟨fun e => Option.some.inj e, fun e => by rw [e]⟩
 rcases ls with ⟨e, h2, r2, l2⟩ | ⟨e, r1, l1⟩
 ·rcases hrow with ⟨_, x2, rr⟩ | ⟨e1, _⟩
  ·refine ⟨2, hi, Or.inr rfl, e, x2, fun _ => h2, ?_⟩
   have ei : y * R.w.toNat + (x + 2) = i + 2 := by omega
   have ed : (if dueB K R.cells i 2 = true then zN R.w t i 2 R.cells[i] else t) = (if K[i]'(by omega) = R.cells[i] /\ K[i + 1]'(by omega) = R.cells[i + 1] then t else zN R.w t i 2 R.cells[i]) := by
    by_cases z : K[i]'(by omega) = R.cells[i] /\ K[i + 1]'(by omega) = R.cells[i + 1]
    ·have z1 := (ge i hi).2 z.1
     have z2 := (ge (i + 1) h2).2 z.2
     rw [if_pos z, if_neg (by unfold dueB; rw [z1, z2]; simp)]
    ·rw [if_neg z, if_pos]
     unfold dueB
     by_cases z1 : K[i]? = R.cells[i]?
     ·have z2 : K[i + 1]? ≠ R.cells[i + 1]? := fun q => z ⟨(ge i hi).1 z1, (ge (i + 1) h2).1 q⟩
      simp [z2]
     ·simp [z1]
   rw [ed]
   refine ⟨by rw [ei]; exact l2, by rw [ei]; exact r2, fun _ => rr, ?_⟩
   rw [ei]
   split
   ·exact hb.skip 2
   ·exact hb.unit hi 2 (by omega) (by omega) R.w hw a3 (by omega) (ok _ (List.getElem_mem hi)) hs
  ·rw [e] at e1; cases e1
 ·rcases hrow with ⟨e1, _⟩ | ⟨_, rr⟩
  ·rw [e] at e1; cases e1
  ·refine ⟨1, hi, Or.inl rfl, e, by omega, fun z => (by cases z), ?_⟩
   have ei : y * R.w.toNat + (x + 1) = i + 1 := by omega
   have ed : (if dueB K R.cells i 1 = true then zN R.w t i 1 R.cells[i] else t) = (if K[i]'(by omega) = R.cells[i] then t else zN R.w t i 1 R.cells[i]) := by
    by_cases z : K[i]'(by omega) = R.cells[i]
    ·have z1 := (ge i hi).2 z
     rw [if_pos z, if_neg (by unfold dueB; rw [z1]; simp)]
    ·have z1 : K[i]? ≠ R.cells[i]? := fun q => z ((ge i hi).1 q)
     rw [if_neg z, if_pos (by unfold dueB; simp [z1])]
   rw [ed]
   refine ⟨by rw [ei]; exact l1, by rw [ei]; exact r1, fun _ => rr, ?_⟩
   rw [ei]
   split
   ·exact hb.skip 1
   ·exact hb.unit hi 1 (by omega) (by omega) R.w hw a3 (by omega) (ok _ (List.getElem_mem hi)) hs
theorem LpS.next {R : Scr} {K : List Cel} {M t : Tel} {y : Nat} (h : LpS R K M y R.w.toNat t) (hR : zi R = true) : LpS R K M (y + 1) 0 t := by
 have e : (y + 1) * R.w.toNat + 0 = y * R.w.toNat + R.w.toNat := by rw [Nat.add_mul, Nat.one_mul]; rfl
 exact ⟨by rw [e]; exact h.left, by rw [e]; exact h.all, fun hy => by rw [List.drop_zero]; exact (z7 hR).2.2.1 _ hy, by rw [e]; exact h.bnd⟩
theorem LpS.done {R : Scr} {K : List Cel} {M t : Tel} (h : LpS R K M R.h.toNat 0 t) (hR : zi R = true) : t = M /\ t.out.size <= 3000000000 /\ t.text.size <= 400000000000 /\ (zh t.st.fg /\ zh t.st.bg) /\ 0 <= t.x /\ t.x <= 5000 := by
 obtain ⟨a1, _⟩ := area hR
 have e := h.left
 rw [Nat.add_zero, <- a1, List.drop_length, xg] at e
 have b := h.bnd
 have := b.out
 exact ⟨e, by omega, b.tt, b.col, b.tx⟩
theorem red_right {s : Scr} {d : Int} (h : zi s = true) : zi (redS s d) = true := ki d h
theorem due_new {R : Scr} {i n : Nat} (hi : i < R.cells.length) (hn : n = 1 \/ n = 2) (hw : (R.cells[i]).wide = (n : Int)) : dueB (List.replicate R.cells.length qB) R.cells i n = decide (R.cells[i] ≠ qB) := by
 have e1 : (List.replicate R.cells.length qB)[i]? = some qB := by rw [List.getElem?_replicate, if_pos hi]
 unfold dueB
 rw [e1, List.getElem?_eq_getElem hi]
 by_cases z : R.cells[i] = qB
 ·rw [z] at hw ⊢
  have : n = 1 := by
   have : (1 : Int) = (n : Int) := hw
   omega
  subst this
  simp
 ·have z' : ¬ (some qB = some R.cells[i]) := fun q => z (Option.some.inj q).symm
  simp [z, z']
theorem Zd {K L : List Cel} {i n : Nat} (hl : K.length = L.length) (hi : i < L.length) (h2 : n = 2 -> i + 1 < L.length) :
  (n = 2 -> ∃ (a : i + 1 < K.length) (b : i + 1 < L.length), dueB K L i n = !decide (L[i] = K[i]'(by omega) /\ L[i + 1] = K[i + 1])) /\ (n = 1 -> dueB K L i n = !decide (L[i] = K[i]'(by omega))) := by
 have ge : ∀ (j : Nat) (hj : j < L.length), (K[j]? = L[j]? ↔ L[j] = K[j]'(by omega)) := fun j hj => by
  rw [List.getElem?_eq_getElem hj, List.getElem?_eq_getElem (show j < K.length by omega)]
  exact ⟨fun e => (Option.some.inj e).symm, fun e => by rw [e]⟩
 refine ⟨fun e => ?_, fun e => ?_⟩
 ·have h2 := h2 e
  refine ⟨by omega, h2, ?_⟩
  have g1 := ge i hi
  have g2 := ge (i + 1) h2
  subst e
  unfold dueB
  by_cases z1 : L[i] = K[i]'(by omega)
  ·by_cases z2 : L[i + 1] = K[i + 1]'(by omega)
   ·simp [g1.2 z1, g2.2 z2, z1, z2]
   ·have : K[i + 1]? ≠ L[i + 1]? := fun q => z2 (g2.1 q)
    simp [g1.2 z1, this, z1, z2]
  ·have : K[i]? ≠ L[i]? := fun q => z1 (g1.1 q)
   simp [this, z1]
 ·have g1 := ge i hi
  subst e
  unfold dueB
  by_cases z1 : L[i] = K[i]'(by omega)
  ·simp [g1.2 z1, z1]
  ·have : K[i]? ≠ L[i]? := fun q => z1 (g1.1 q)
   simp [this, z1]
end
end
end Go.Proofs.YtifoijbpbigaaaaGreatDoor
